/- Walks and plain facts that the laws of this seat share, part 2: contracts of functions, each said at its theorem. -/
import Derived.Test.YthcapomobidnbaaPk1
import Derived.Deep.Draws
import Derived.Shelf.SlSortCmp.WholeK
import Derived.Test.YthcapomobidnbaaChecked
import Derived.Lib.Hide
import Derived.Deep.QuietTactic
import Derived.WalkKit
import Derived.Laws.StructEq
section
/- The memory that a body holds: parts of its own, apart from each other, all made since it began. No program is named here. -/
namespace Go.Sl
open Go Go.RowKit
/-- Of the world w0 nothing has turned; the parts l were made since, and are apart. -/
structure Env (w0 w : World) (l : List Hp) : Prop where
  own : Own w l
  fr : ∀ h ∈ l, ∀ q, h q ≠ Option.none → w0.heap.size ≤ q
  low : Below w0.heap.size w0 w
section
variable {w0 w w1 : World} {l : List Hp} {h h' : Hp}
theorem Env.start (w : World) : Env w w [] := ⟨trivial, fun _ e => absurd e (by simp), Below.refl _ _⟩
theorem Env.below (E : Env w0 w l) (b : Below w.heap.size w w1) : Env w0 w1 l := ⟨E.own.below b, E.fr, E.low.trans (b.mono E.low.size)⟩
theorem Own.snoc {w : World} {h' : Hp} (s : h'.sub w) : ∀ {l : List Hp}, Own w l → (∀ k ∈ l, k.apart h') → Own w (l ++ [h'])
  | [], _, _ => ⟨s, fun _ e => absurd e (by simp), trivial⟩
  | k :: l, o, a => ⟨o.1, fun q hq => by
      rcases List.mem_append.1 hq with hq | hq
      · exact o.2.1 q hq
      · simp at hq; subst hq; exact a k (by simp), o.2.2.snoc s fun q hq => a q (by simp [hq])⟩
theorem Env.new (E : Env w0 w l) (u : Upd Hp.none h' w w1) : Env w0 w1 (l ++ [h']) :=
  ⟨(E.own.below u.below).snoc u.sub fun k hk => (u.apart (fun _ e => absurd rfl e) (E.own.mem k hk)).symm, fun k hk q hq => by
    rcases List.mem_append.1 hk with hk | hk
    · exact E.fr k hk q hq
    · simp at hk; subst hk
      rcases u.dom q hq with e | e
      · exact absurd rfl e
      · exact Nat.le_trans E.low.size e, E.low.trans (u.below.mono E.low.size)⟩
theorem Env.upd (E : Env w0 w l) (i : Nat) (hi : l[i]? = some h) (u : Upd h h' w w1) : Env w0 w1 (l.set i h') :=
  ⟨E.own.upd u i hi, fun k hk q hq => by
    rcases List.mem_or_eq_of_mem_set hk with hk | rfl
    · exact E.fr k hk q hq
    · rcases u.dom q hq with e | e
      · exact E.fr h (List.mem_of_getElem? hi) q e
      · exact Nat.le_trans E.low.size e,
   ⟨u.os.trans E.low.os, u.tape.trans E.low.tape, u.output.trans E.low.output, Nat.le_trans E.low.size u.size, fun q hq => by
    refine (u.keep q (Nat.lt_of_lt_of_le hq E.low.size) ?_).trans (E.low.block q hq)
    cases hh : h q with
    | none => rfl
    | some o => have := E.fr h (List.mem_of_getElem? hi) q (by simp [hh]); omega⟩⟩
theorem Env.sub (E : Env w0 w l) (i : Nat) (hi : l[i]? = some h) : h.sub w := E.own.get i h hi
theorem Env.drop (E : Env w0 w l) (i : Nat) : Env w0 w (l.eraseIdx i) := ⟨E.own.erase i, fun k hk => E.fr k (List.mem_of_mem_eraseIdx hk), E.low⟩
theorem Env.arg (E : Env w0 w l) {k : Hp} (s : k.sub w0) : k.sub w := s.of_below E.low
/-- A new block. -/
theorem Upd.newBlock (w : World) (o : Obj) : Upd Hp.none (Hp.one w.heap.size o) w (w.alloc o) :=
  ⟨rfl, rfl, rfl, by simp, fun q hq _ => heap_old_at hq, Hp.one_sub (heap_new_at rfl), fun q hq => by
    right
    simp only [Hp.one] at hq
    split at hq
    · omega
    · exact absurd rfl hq⟩
theorem Hp.sub.free {h : Hp} {w : World} (s : h.sub w) {b : Nat} (hb : w.heap.size ≤ b) : h b = Option.none := by
  cases hh : h b with
  | none => rfl
  | some o => have := s.lt (b := b) (by simp [hh]); omega
/-- A new block that holds what was made before. -/
theorem Upd.put {o : Obj} (u : Upd Hp.none h' w w1) : Upd Hp.none (h'.put w1.heap.size o) w (w1.alloc o) :=
  ⟨u.os, u.tape, u.output, by simp; exact Nat.le_trans u.size (Nat.le_succ _), fun q hq hn => (heap_old_at (Nat.lt_of_lt_of_le hq u.size)).trans (u.keep q hq hn), Hp.put_sub (u.sub.of_below ((Below.refl _ _).alloc (Nat.le_refl _) _)) (heap_new_at rfl), fun q hq => by
    simp only [Hp.put] at hq
    split at hq
    · right; have := u.size; omega
    · exact u.dom q hq⟩
theorem Env.alloc (E : Env w0 w l) (o : Obj) : Env w0 (w.alloc o) (l ++ [Hp.one w.heap.size o]) := E.new (Upd.newBlock w o)
theorem Env.drew (E : Env w0 w l) : Env w0 w.drew l := E.below ((Below.refl _ _).drew)
theorem Env.drewN (E : Env w0 w l) (n : Nat) : Env w0 (w.drewN n) l := E.below ⟨rfl, rfl, rfl, Nat.le_refl _, fun _ _ => rfl⟩
theorem Env.alloc' (E : Env w0 w l) (o : Obj) : Env w0 (w.alloc o) l := E.below ((Below.refl _ _).alloc (Nat.le_refl _) o)
theorem flatMap_len {α : Type} {size : Nat} {cells : α → List Value} (hl : ∀ x, (cells x).length = size) : ∀ xs : List α, (xs.flatMap cells).length = xs.length * size
  | [] => by simp
  | y :: ys => by simp only [List.flatMap_cons, List.length_append, hl, flatMap_len hl ys, List.length_cons, Nat.add_mul, Nat.one_mul]; omega
/-- A literal of flat elements in a new block, owned. -/
theorem Ow.lit {α : Type} {size : Nat} {cells : α → List Value} {pos : 0 < size} {hl : ∀ x, (cells x).length = size} {h1 : ∀ x, ∀ u ∈ cells x, u.oneCell' = true} {h : Hp} {b : Nat} {t : TypeId} {xs : List α}
    (hb : h b = some (.cells (xs.flatMap cells).toArray t (0, 0))) (hm : xs.length ≤ maxLen) : Ow (Kd.flat size cells pos hl h1) h (some ⟨b, 0, .none⟩) xs.length xs :=
  ⟨Nat.le_refl _, hm, (fun e => (nomatch e)), fun ad e _ => by
    cases e
    refine ⟨b, 0, _, t, rfl, hb, ?_, fun i x hx => ⟨cells x, rfl, fun j u hu => ?_⟩⟩
    · have := flatMap_len hl xs
      simp only [Kd.flat, List.size_toArray, this]; omega
    · rw [Nat.zero_add, List.getElem?_toArray]; exact flatMap_get hl xs i x hx j u hu⟩
/-- The rest of a part turns, one block stands. -/
theorem Upd.rest {k' : Hp} {b : Nat} {o : Obj} (hb : h b = some o) (s : h.sub w) (u : Upd (h.del b) k' w w1) : Upd h (k'.put b o) w w1 ∧ k' b = .none := by
  have hlt := s.lt (b := b) (by simp [hb])
  have hk : k' b = .none := by
    cases hh : k' b with
    | none => rfl
    | some q =>
      rcases u.dom b (by simp [hh]) with e | e
      · exact absurd Hp.del_self e
      · omega
  refine ⟨⟨u.os, u.tape, u.output, u.size, fun q hq hn => u.keep q hq (by simp [Hp.del, hn]), fun q o' e => ?_, fun q e => ?_⟩, hk⟩
  · simp only [Hp.put] at e
    split at e
    · rename_i hq; cases e; rw [hq]; exact (u.keep b hlt Hp.del_self).trans (s b _ hb)
    · exact u.sub q o' e
  · simp only [Hp.put] at e
    split at e
    · rename_i hq; left; rw [hq, hb]; simp
    · rcases u.dom q e with h1 | h1
      · left; intro h0; exact h1 (by simp [Hp.del, h0])
      · exact .inr h1
theorem Own.apart_of {w : World} : ∀ {l : List Hp}, Own w l → ∀ {i j : Nat} {h k : Hp}, l[i]? = some h → l[j]? = some k → i ≠ j → h.apart k
  | [], _, i, j, h, k, e, _, _ => by simp at e
  | a :: l, o, 0, 0, h, k, _, _, n => absurd rfl n
  | a :: l, o, 0, j + 1, h, k, e1, e2, _ => by simp at e1 e2; subst e1; exact o.2.1 k (List.mem_of_getElem? e2)
  | a :: l, o, i + 1, 0, h, k, e1, e2, _ => by simp at e1 e2; subst e2; exact (o.2.1 h (List.mem_of_getElem? e1)).symm
  | a :: l, o, i + 1, j + 1, h, k, e1, e2, n => o.2.2.apart_of (i := i) (j := j) (by simpa using e1) (by simpa using e2) (by omega)
/-- A part is written into, and not told any more. -/
theorem Env.scratch (E : Env w0 w l) (i : Nat) (hi : l[i]? = some h) {b j : Nat} {v : Value} (hb : h b ≠ .none) : Env w0 (w.setCell ⟨b, j, .none⟩ v) (l.eraseIdx i) := by
  have D := E.drop i
  have hB : w0.heap.size ≤ b := E.fr h (List.mem_of_getElem? hi) b hb
  have hn : ∀ k ∈ l.eraseIdx i, k b = .none := fun k hk => by
    obtain ⟨m, hm⟩ := List.mem_iff_getElem?.1 hk
    rw [List.getElem?_eraseIdx] at hm
    split at hm
    · exact E.own.apart_of hi hm (by omega) b hb
    · exact E.own.apart_of hi hm (by omega) b hb
  have G : Below b w (w.setCell ⟨b, j, .none⟩ v) := (Below.refl b w).setCell (Nat.le_refl _) v
  have S : (w.setCell ⟨b, j, .none⟩ v).heap.size = w.heap.size := by simp
  refine ⟨?_, D.fr, D.low.setCell hB v⟩
  have key : ∀ l : List Hp, Own w l → (∀ k ∈ l, k b = .none) → Own (w.setCell ⟨b, j, .none⟩ v) l := by
    intro l
    induction l with
    | nil => exact fun _ _ => trivial
    | cons k l ih =>
      intro o hk
      refine ⟨fun q o' e => ?_, o.2.1, ih o.2.2 fun x hx => hk x (by simp [hx])⟩
      rw [Below.heap_setCell w ⟨b, j, .none⟩ v q (fun hq => by have := hk k (by simp); rw [show q = b from hq, this] at e; cases e)]
      exact o.1 q o' e
  exact key _ D.own hn
end
end Go.Sl
end
section
/- What the shelf's sort of structs does to an owned slice. No program is named here. -/
namespace Go.Sl
open Go Go.RowKit Go.Sort Go.Proofs
section
variable {α : Type} [Inhabited α] {size : Nat} {cells : α → List Value} {pos : 0 < size} {hl : ∀ x, (cells x).length = size} {h1 : ∀ x, ∀ u ∈ cells x, u.oneCell' = true} {h : Hp} {b off cap : Nat} {xs : List α} {w : World}
theorem Ow.holds (o : Ow (Kd.flat size cells pos hl h1) h (some ⟨b, off, .none⟩) cap xs) (s : h.sub w) (hc : 0 < xs.length) : HoldsK cells size w b off xs.toArray := by
  obtain ⟨b', off', cur, E, e, hb, hsz, hrow⟩ := o.row _ rfl (by have := o.le; omega)
  cases e
  have hbw := s b _ hb
  intro t ht
  have ht' : t < xs.length * size := by simpa [size_flatK] using ht
  have hq : t / size < xs.length := (Nat.div_lt_iff_lt_mul pos).2 ht'
  have hm : t % size < size := Nat.mod_lt _ pos
  obtain ⟨cs, hK, hcs⟩ := hrow (t / size) xs[t / size] (by simp [hq])
  have hK' : cs = cells xs[t / size] := hK
  subst hK'
  have hu := hcs (t % size) _ (List.getElem?_eq_getElem (by rw [hl]; exact hm))
  have e2 : off + t / size * size + t % size = off + t := by
    have := Nat.div_add_mod t size
    rw [Nat.mul_comm] at this; omega
  simp only [Kd.flat] at hu
  rw [e2] at hu
  refine ⟨?_, frozen_of_row w b _ cur E hbw⟩
  rw [cell_of_row w b _ cur E (0, 0) hbw, hu, get_flatK _ _ _ t (by simpa using ht')]
  simp only [id]
  have e3 : xs.toArray[t / size]! = xs[t / size] := by simp [hq]
  rw [e3, getElem!_pos _ _ (by rw [hl]; exact hm)]
theorem Ow.sorted (o : Ow (Kd.flat size cells pos hl h1) h (some ⟨b, off, .none⟩) cap xs) (s : h.sub w) (hc : 0 < xs.length) {w' : World} {n : Nat} {d : Array α} {os : Array Obj} (hd : d.size = xs.length) (hw : w' = sortWorldK cells size w b off n d os) :
    ∃ h', Ow (Kd.flat size cells pos hl h1) h' (some ⟨b, off, .none⟩) cap d.toList ∧ Upd h h' w w' := by
  obtain ⟨b', off', cur, E, e, hb, hsz, _⟩ := o.row _ rfl (by have := o.le; omega)
  cases e
  have hbw := s b _ hb
  have hlt := s.lt (b := b) (by simp [hb])
  have hle := o.le
  have hsz' : off + cap * size ≤ cur.size := hsz
  have hfit : xs.length * size ≤ cap * size := Nat.mul_le_mul_right _ hle
  have hblock : ∀ q, q < w.heap.size → w'.heap[q]? = if q = b then some (.cells (putCells id off (flatK cells size d) cur) E (0, 0)) else w.heap[q]? := by
    intro q hq
    subst hw
    show (((w.heap.modify b (onCells (putCells id off (flatK cells size d)))) ++ os)[q]?) = _
    rw [Array.getElem?_append, if_pos (by simpa using hq), Array.getElem?_modify]
    by_cases e : b = q
    · subst e
      rw [if_pos rfl, if_pos rfl, hbw]; rfl
    · rw [if_neg e, if_neg (fun h => e h.symm)]
  refine ⟨h.put b (.cells (putCells id off (flatK cells size d) cur) E), ⟨by simpa [hd] using hle, o.max, o.nil, fun ad e _ => ?_⟩, ?_⟩
  · cases e
    refine ⟨b, off, _, E, rfl, Hp.put_self, by simpa [putCells] using hsz, fun i x hx => ⟨cells x, rfl, fun j u hu => ?_⟩⟩
    have hi : i < d.size := by simpa using (List.getElem?_eq_some_iff.1 hx).1
    have hj : j < size := by rw [← hl x]; exact (List.getElem?_eq_some_iff.1 hu).1
    have ht : i * size + j < d.size * size := by
      have := Nat.mul_le_mul_right size (show i + 1 ≤ d.size from hi); rw [Nat.add_mul, Nat.one_mul] at this; omega
    have e1 : (i * size + j) / size = i := by rw [Nat.mul_comm, Nat.mul_add_div pos, Nat.div_eq_of_lt hj, Nat.add_zero]
    have e2 : (i * size + j) % size = j := by rw [Nat.mul_comm, Nat.mul_add_mod, Nat.mod_eq_of_lt hj]
    have hds : d.size * size = xs.length * size := by rw [hd]
    simp only [Kd.flat, putCells, Array.getElem?_mapIdx]
    rw [Array.getElem?_eq_getElem (by omega)]
    simp only [Option.map_some, size_flatK]
    rw [if_pos (by omega)]
    have e4 : off + i * size + j - off = i * size + j := by omega
    have e5 : d[i]! = x := by
      have h2 := (List.getElem?_eq_some_iff.1 hx).2
      rw [getElem!_pos d i hi]; simpa using h2
    have hu2 := List.getElem?_eq_some_iff.1 hu
    rw [e4, get_flatK _ _ _ _ ht, e1, e2, e5, getElem!_pos _ _ (by rw [hl]; exact hj), hu2.2]; rfl
  · refine ⟨by subst hw; rfl, by subst hw; rfl, by subst hw; rfl, ?_, fun q hq hn => ?_, fun q o2 e2 => ?_, fun q hq => ?_⟩
    · subst hw
      show w.heap.size ≤ ((w.heap.modify b _) ++ os).size
      simp
    · rw [hblock q hq, if_neg (fun e => by rw [e, hb] at hn; cases hn)]
    · simp only [Hp.put] at e2
      split at e2
      · rename_i hq; cases e2; rw [hq, hblock b hlt, if_pos rfl]
      · rename_i hq
        rw [hblock q (s.lt (by simp [e2])), if_neg hq]; exact s q o2 e2
    · left
      simp only [Hp.put] at hq
      split at hq
      · rename_i h2; rw [h2, hb]; simp
      · exact hq
end
/-- A rising list's strict weak order. -/
theorem swo_ord {κ α : Type} (o : Ord κ) (key : α → κ) (lt : α → α → Bool) (h : ∀ x y, lt x y = o.lt (key x) (key y)) : SWO lt where
  irrefl x := by rw [h, o.irrefl]
  trans x y z a b := by rw [h] at *; exact o.trans _ _ _ a b
  ntrans x y z a b := by
    rw [h] at *
    rcases o.tri (key x) (key y) with e | e | e
    · rw [a] at e; cases e
    · rw [e]; exact b
    · rcases o.tri (key y) (key z) with f | f | f
      · rw [b] at f; cases f
      · rw [← f]; exact a
      · exact o.asymm (o.trans _ _ _ f e)
/-- What a list of keys, each once, is when sorted. -/
def isort {κ α : Type} [DecidableEq κ] (o : Ord κ) (key : α → κ) (l : List α) : List α := l.foldr (fun x acc => put o key x acc) []
section
variable {κ α : Type} [DecidableEq κ] {o : Ord κ} {key : α → κ}
theorem isort_rising (l : List α) : Rising o key (isort o key l) := by
  induction l with
  | nil => exact List.Pairwise.nil
  | cons x l ih => exact ih.put o key x
theorem mem_isort {l : List α} (h : l.Pairwise fun x y => key x ≠ key y) {z : α} : z ∈ isort o key l ↔ z ∈ l := by
  induction l with
  | nil => simp [isort]
  | cons x l ih =>
    obtain ⟨a, b⟩ := List.pairwise_cons.1 h
    show z ∈ put o key x (isort o key l) ↔ _
    rw [mem_put, ih b, List.mem_cons]
    constructor
    · rintro (e | ⟨e, _⟩)
      · exact .inl e
      · exact .inr e
    · rintro (e | e)
      · exact .inl e
      · exact .inr ⟨e, fun e2 => a z e e2.symm⟩
theorem isort_of [Inhabited α] {l : List α} (hn : l.Pairwise fun x y => key x ≠ key y) {lt : α → α → Bool} (hlt : ∀ x y, lt x y = o.lt (key x) (key y)) {d : Array α} (hp : PermIn 0 l.length l.toArray d) (hs : SortedIn lt 0 l.length d) : d.toList = isort o key l := by
  obtain ⟨h1, _, h3⟩ := hp
  have h1' : d.size = l.length := by simpa using h1
  have hperm : d.toList.Perm l := by
    have e1 : (d.extract 0 l.length).toList = d.toList := by rw [← h1']; simp
    have e2 : (l.toArray.extract 0 l.length).toList = l := by simp
    rwa [e1, e2] at h3
  refine Rising.ext o key (Rising.of_sorted ?_ ?_) (isort_rising l) fun z => by rw [mem_isort hn]; exact hperm.mem_iff
  · rw [List.pairwise_iff_getElem]
    intro i j hi hj hij
    have hi' : i < d.size := by simpa using hi
    have hj' : j < d.size := by simpa using hj
    have := hs i j (Nat.zero_le _) hij (by omega)
    rw [getElem!_pos d i hi', getElem!_pos d j hj', hlt] at this
    simpa using this
  · exact hperm.symm.pairwise hn fun h => h.symm
end
end Go.Sl
end
section
/- Where a predicate first holds. No program is named here. -/
namespace Go.Sl
/-- Where a predicate first holds; -1: nowhere. -/
def idx {α : Type} (p : α → Bool) (xs : List α) : Int := if xs.any p then (xs.findIdx p : Nat) else -1
theorem idx_any {α : Type} (p : α → Bool) (xs : List α) : decide (0 ≤ idx p xs) = xs.any p := by
  unfold idx; split <;> rename_i h <;> simp [h]
theorem idx_hit {α : Type} {p : α → Bool} {xs : List α} {j : Nat} {x : α} (h : ∀ y ∈ xs.take j, p y = false) (hx : xs[j]? = some x) (hp : p x = true) : idx p xs = j := by
  have hj := (List.getElem?_eq_some_iff.1 hx)
  have ha : xs.any p = true := List.any_eq_true.2 ⟨x, List.mem_of_getElem? hx, hp⟩
  simp only [idx, ha, if_true]
  congr 1
  refine (List.findIdx_eq hj.1).2 ⟨by rw [hj.2]; exact hp, fun i hi => ?_⟩
  have hil : i < xs.length := by have := hj.1; omega
  have := h xs[i] (by rw [List.mem_take_iff_getElem]; exact ⟨i, by omega, rfl⟩)
  simpa using this
theorem idx_miss {α : Type} {p : α → Bool} {xs : List α} (h : ∀ y ∈ xs, p y = false) : idx p xs = -1 := by
  have : xs.any p = false := by rw [List.any_eq_false]; intro y hy; simp [h y hy]
  simp [idx, this]
end Go.Sl
end
section
/- The walks of the small functions: keep.Within, play.Amount, rate.Money, rate.Of, and the document's Of. -/
namespace Go.Proofs.Ythcapomobidnbaa
open Go.RowKit Go.Sl
set_option maxHeartbeats 400000

theorem within_calls (v n : Int) (w : World) (h : 0 < n) (hn : n ≤ 9223372036854775807) :
    Calls Try.prog 21 #[.int .i64 v, .int .i64 n] w fun e w' => e = .returned (.int .i64 (within v n)) ∧ w = w' := by
  have h0 : (n == 0) = false := by simp; omega
  have h1 : decide (n < 1) = false := by simp; omega
  by_cases hk : v.tmod n < 0
  · have e := Lib.hid (tmod_emod_neg h hk)
    have hlo : -n < v.tmod n := Int.lt_tmod_of_pos _ h
    go_enter Try.func21, Try.ntmps21
    go_wp2
    go_ret
    exact ⟨by rw [e.out]; rfl, rfl⟩
  · have e := Lib.hid (tmod_emod_pos h hk)
    go_enter Try.func21, Try.ntmps21
    go_wp2
    go_ret
    exact ⟨by rw [e.out]; rfl, rfl⟩

theorem money_calls (n : Int) (w : World) : Calls Try.prog 45 #[.int .i64 n] w fun e w' => e = .returned (.bool (money n)) ∧ w = w' := by
  go_enter Try.func45, Try.ntmps45
  go_wp2
  all_goals
    go_ret
    exact ⟨by simp [money]; omega, rfl⟩

theorem of_calls (n r : Int) (w : World) : Calls Try.prog 46 #[.int .i64 n, .int .i64 r] w fun e w' => e = .returned (.tuple #[.int .i64 (ofVal n r), .bool (ofOk n r)]) ∧ w = w' := by
  by_cases hok : -400000000000 ≤ n ∧ n ≤ 400000000000 ∧ 0 ≤ r ∧ r ≤ 10000000
  · obtain ⟨h1, h2, h3, h4⟩ := hok
    obtain ⟨p1, p2⟩ := mul_bd h1 h2 h3 h4
    have e1 : ofOk n r = true := by simp [ofOk]; omega
    have e2 : ofVal n r = partOf n r := by simp [ofVal, e1]
    rw [e1, e2]
    clear e1 e2
    go_enter Try.func46, Try.ntmps46
    go_wp2
    all_goals first | (exfalso; omega) | skip
    all_goals
      go_ret2
      refine ⟨?_, rfl⟩
      unfold partOf
      first | (rw [if_pos (by assumption)]; rfl) | (rw [if_neg (by omega)]; rfl)
  · have e1 : ofOk n r = false := by simp [ofOk]; omega
    have e2 : ofVal n r = 0 := by simp [ofVal, e1]
    rw [e1, e2]
    clear e1 e2
    go_enter Try.func46, Try.ntmps46
    go_wp2
    all_goals first | (exfalso; omega) | skip
    all_goals
      go_ret2
      exact ⟨rfl, rfl⟩

theorem amount_calls (n : Int) (hw : -9223372036854775808 ≤ n ∧ n ≤ 9223372036854775807) (w : World) :
    Calls Try.prog 30 #[.int .i64 n] w fun e w' => e = .returned (.int .i64 (amount n)) ∧ w = w' := by
  obtain ⟨w1, w2⟩ := hw
  have a5 := within_lo (n.tdiv 23) (n := 5) (by omega)
  have b5 := within_hi (n.tdiv 23) (n := 5) (by omega)
  have a2 := within_lo (n.tdiv 23) (n := 200000000001) (by omega)
  have b2 := within_hi (n.tdiv 23) (n := 200000000001) (by omega)
  have a4 := within_lo n (n := 4001) (by omega)
  have b4 := within_hi n (n := 4001) (by omega)
  by_cases c1 : n.tmod 23 = 20
  · have b1 : (n.tmod 23 == 20) = true := by simpa using c1
    have e := Lib.hid (show amount n = 100000000000 - within (n.tdiv 23) 5 + 2 by simp [amount, c1])
    clear c1
    go_enter Try.func30, Try.ntmps30
    go_wp2_with (go_at_call 21; refine (within_calls _ _ _ (by omega) (by omega)).mono ?_; rintro e w' ⟨rfl, rfl⟩)
    go_ret
    exact ⟨by rw [e.out]; rfl, rfl⟩
  have b1 : (n.tmod 23 == 20) = false := by simpa using c1
  by_cases c2 : n.tmod 23 = 21
  · have b1 : (n.tmod 23 == 21) = true := by simpa using c2
    have e := Lib.hid (show amount n = -100000000000 + within (n.tdiv 23) 5 - 2 by simp [amount, c2])
    clear c1 c2
    go_enter Try.func30, Try.ntmps30
    go_wp2_with (go_at_call 21; refine (within_calls _ _ _ (by omega) (by omega)).mono ?_; rintro e w' ⟨rfl, rfl⟩)
    go_ret
    exact ⟨by rw [e.out]; rfl, rfl⟩
  have d1 : (n.tmod 23 == 21) = false := by simpa using c2
  by_cases c3 : n.tmod 23 = 22
  · have b1 : (n.tmod 23 == 22) = true := by simpa using c3
    have e := Lib.hid (show amount n = n by simp [amount, c3])
    clear c1 c2 c3
    go_enter Try.func30, Try.ntmps30
    go_wp2
    go_ret
    exact ⟨by rw [e.out]; rfl, rfl⟩
  have d2 : (n.tmod 23 == 22) = false := by simpa using c3
  by_cases c4 : n.tmod 23 = 19
  · have b1 : (n.tmod 23 == 19) = true := by simpa using c4
    have e := Lib.hid (show amount n = within (n.tdiv 23) 200000000001 - 100000000000 by simp [amount, c4])
    clear c1 c2 c3 c4
    go_enter Try.func30, Try.ntmps30
    go_wp2_with (go_at_call 21; refine (within_calls _ _ _ (by omega) (by omega)).mono ?_; rintro e w' ⟨rfl, rfl⟩)
    go_ret
    exact ⟨by rw [e.out]; rfl, rfl⟩
  · have d3 : (n.tmod 23 == 19) = false := by simpa using c4
    have e := Lib.hid (show amount n = within n 4001 - 2000 by simp [amount, c1, c2, c3, c4])
    clear c1 c2 c3 c4
    go_enter Try.func30, Try.ntmps30
    go_wp2_with (go_at_call 21; refine (within_calls _ _ _ (by omega) (by omega)).mono ?_; rintro e w' ⟨rfl, rfl⟩)
    go_ret
    exact ⟨by rw [e.out]; rfl, rfl⟩

theorem refOf_pos (n r : Int) (h : 0 ≤ n) (w : World) : Calls Try.prog 73 #[.int .i64 n, .int .i64 r] w fun e w' => e = .returned (.tuple #[.int .i64 (ofVal n r), .bool (ofOk n r)]) ∧ w = w' := by
  have hn : (n == 0) = true ∨ (n == 0) = false := by cases (n == 0) <;> simp
  by_cases hok : n ≤ 400000000000 ∧ 0 ≤ r ∧ r ≤ 10000000
  · obtain ⟨h2, h3, h4⟩ := hok
    obtain ⟨p1, p2⟩ := mul_bd (n := n) (by omega) h2 h3 h4
    have e1 : ofOk n r = true := by simp [ofOk]; omega
    have e2 : ofVal n r = partOf n r := by simp [ofVal, e1]
    have p3 : 0 ≤ n * r := Int.mul_nonneg h h3
    have p4 : n * r ≤ 4000000000000000000 := by rw [Int.mul_assoc] at p2; omega
    have p5 : partOf n r = if 2 * (n * r % 1000000) ≥ 1000000 then n * r / 1000000 + 1 else n * r / 1000000 := by
      unfold partOf
      rw [if_neg (by omega), Int.mul_assoc, Int.tdiv_eq_ediv_of_nonneg (by omega)]
      split <;> omega
    have P5 := Lib.hid p5
    rw [e1, e2]
    clear e1 e2 p1 p2 p5 hn
    go_enter Try.func73, Try.ntmps73
    go_wp2
    all_goals first | (exfalso; omega) | skip
    all_goals
      go_ret2
      refine ⟨?_, rfl⟩
      rw [P5.out]
      first | (rw [if_pos (by omega)]; rfl) | (rw [if_neg (by omega)]; rfl)
  · have e1 : ofOk n r = false := by simp [ofOk]; omega
    have e2 : ofVal n r = 0 := by simp [ofVal, e1]
    rw [e1, e2]
    clear e1 e2 hn
    go_enter Try.func73, Try.ntmps73
    go_wp2
    all_goals first | (exfalso; omega) | skip
    all_goals
      go_ret2
      exact ⟨rfl, rfl⟩
theorem refOf_calls (n r : Int) (w : World) : Calls Try.prog 73 #[.int .i64 n, .int .i64 r] w fun e w' => e = .returned (.tuple #[.int .i64 (ofVal n r), .bool (ofOk n r)]) ∧ w = w' := by
  by_cases h : 0 ≤ n
  · exact refOf_pos n r h w
  have hb := ofVal_neg n r
  by_cases hok : -400000000000 ≤ n ∧ 0 ≤ r ∧ r ≤ 10000000
  · obtain ⟨h2, h3, h4⟩ := hok
    have e1 : ofOk n r = true := by simp [ofOk]; omega
    have e3 := ofOk_neg n r
    have e2 : -ofVal (-n) r = ofVal n r := by omega
    obtain ⟨b1, b2⟩ := ofVal_bd (-n) r
    have E2 := Lib.hid e2
    have E1 := Lib.hid e1
    have C := refOf_pos (-n) r (by omega)
    rw [e3, e1] at C
    have hlt : n < 0 := by omega
    rw [e1]
    clear e1 e2 e3 hb h
    go_enter Try.func73, Try.ntmps73
    go_wp2_with (go_at_call 73; refine (C _).mono ?_; rintro e w' ⟨rfl, rfl⟩)
    all_goals first | (exfalso; omega) | skip
    all_goals
      go_ret2
      exact ⟨by rw [← E2.out]; rfl, rfl⟩
  · have e1 : ofOk n r = false := by simp [ofOk]; omega
    have e2 : ofVal n r = 0 := by simp [ofVal, e1]
    rw [e1, e2]
    clear e1 e2 hb
    go_enter Try.func73, Try.ntmps73
    go_wp2_with fail
    all_goals first | (exfalso; omega) | skip
    all_goals
      go_ret2
      exact ⟨rfl, rfl⟩
end Go.Proofs.Ythcapomobidnbaa
end
section
/- append onto a slice in a body's own memory. No program is named here. -/
namespace Go.Sl
open Go Go.RowKit
section
variable {P : Program} {α : Type} {k : Kd α} {h hx : Hp} {A B : Option Addr} {cap : Nat} {xs ys : List α} {w0 w : World} {l : List Hp}
theorem Env.at_mem (E : Env w0 w l) {h : Hp} (m : h ∈ l) : h.sub w := E.own.mem h m
/-- One flat element. -/
theorem wpList_eapp {ops : Array Oper} {rest : List Oper} {op : Oper} {a : Act} {Q : Exit → Act → World → Prop} {sx xx : Operand} {t e : TypeId} {z : Value} {bytes : Nat} {cs : List Value} {T : TypeId} {fr : Nat × Nat} {b : Nat}
    (i : Nat) (y : α) (ht : P.underlying t = some (.slice e)) (hinfo : Info P e z k.size bytes) (E : Env w0 w l) (hi : l[i]? = some h) (o : Ow k h A cap xs) (n : Nat) (hn : xs.length = n)
    (hzs : z.cells.size = k.size) (hgd : Region.wanted op (yielded ops a.tmps) = true)
    (ho : op.op = .call { callee := .builtin .append, args := #[sx, xx], argTypes := #[t, t] }) (c : Nat) (hsv : a.eval sx = .slice A n cap) (hxv : a.eval xx = .slice (some ⟨b, 0, none⟩) 1 c)
    (hb : w.heap[b]? = some (.cells cs.toArray T fr)) (hK : k.K Hp.none y cs)
    (hm : n + 1 ≤ 1000000000) (hby : bytes ≤ 1000)
    (H : ∀ A' cap' w' h', Ow k h' A' cap' (xs ++ [y]) → Env w0 w' (l.set i h') → wpList P ops Q rest (a.put op.dst (.slice A' (n + 1) cap')) w') : wpList P ops Q (op :: rest) a w :=
  wpList_app1f ht hinfo hzs hgd ho n c hsv hxv hn o (E.sub i hi) hb hK hm hby fun A' cap' w' h' h1 h2 => H A' cap' w' h' h1 (E.upd i hi h2)
/-- A whole slice of flat elements. -/
theorem wpList_eappF {ops : Array Oper} {rest : List Oper} {op : Oper} {a : Act} {Q : Exit → Act → World → Prop} {sx xx : Operand} {t e : TypeId} {z : Value} {bytes cb : Nat}
    (i : Nat) (ht : P.underlying t = some (.slice e)) (hinfo : Info P e z k.size bytes) (E : Env w0 w l) (hi : l[i]? = some h) (o : Ow k h A cap xs) (sy : Sl k hx B cb ys) (sx' : hx.sub w) (n m : Nat) (hn : xs.length = n) (hm' : ys.length = m)
    (f : k.Flat) (hzs : z.cells.size = k.size) (hgd : Region.wanted op (yielded ops a.tmps) = true)
    (ho : op.op = .call { callee := .builtin .append, args := #[sx, xx], argTypes := #[t, t] }) (c : Nat) (hsv : a.eval sx = .slice A n cap) (hxv : a.eval xx = .slice B m c)
    (hm : n + m ≤ 1000000000) (hby : bytes ≤ 1000)
    (H : ∀ A' cap' w' h', Ow k h' A' cap' (xs ++ ys) → Env w0 w' (l.set i h') → wpList P ops Q rest (a.put op.dst (.slice A' (n + m) cap')) w') : wpList P ops Q (op :: rest) a w :=
  wpList_appF ht hinfo hzs hgd ho n m c hsv hxv hn hm' f o (E.sub i hi) sy sx' hm hby fun A' cap' w' h' h1 h2 => H A' cap' w' h' h1 (E.upd i hi h2)
end
end Go.Sl
end
section
/- The walks of cmp.Compare and cmp.Or over whole numbers. -/
namespace Go.Sl
def cmpI (x y : Int) : Int := if x < y then -1 else if y < x then 1 else 0
def orI (a b : Int) : Int := if a = 0 then b else a
end Go.Sl
namespace Go.Proofs.Ythcapomobidnbaa
open Go.RowKit Go.Sl
set_option maxHeartbeats 1000000
theorem nan_calls (x : Int) (w : World) : Calls Try.prog 77 #[.int .i64 x] w fun e w' => e = .returned (.bool false) ∧ w = w' := by
  go_enter Try.func77, Try.ntmps77
  go_wp2
  go_ret
  exact ⟨by simp, rfl⟩
theorem compare_calls (x y : Int) (w : World) : Calls Try.prog 57 #[.int .i64 x, .int .i64 y] w fun e w' => e = .returned (.int .i64 (cmpI x y)) ∧ w = w' := by
  rcases Int.lt_trichotomy x y with h | h | h
  · have HC : Hid (cmpI x y = -1) := if_pos h
    have t1 : decide (x < y) = true := by simpa using h
    clear h
    go_enter Try.func57, Try.ntmps57
    go_wp2_with (go_at_call 77; refine (nan_calls _ _).mono ?_; rintro e w' ⟨rfl, rfl⟩)
    go_ret
    exact ⟨by rw [HC.out]; rfl, rfl⟩
  · have HC : Hid (cmpI x y = 0) := by unfold Hid cmpI; rw [if_neg (by omega), if_neg (by omega)]
    have t1 : decide (x < y) = false := by simp; omega
    have t2 : decide (y < x) = false := by simp; omega
    clear h
    go_enter Try.func57, Try.ntmps57
    go_wp2_with (go_at_call 77; refine (nan_calls _ _).mono ?_; rintro e w' ⟨rfl, rfl⟩)
    go_ret
    exact ⟨by rw [HC.out]; rfl, rfl⟩
  · have HC : Hid (cmpI x y = 1) := by unfold Hid cmpI; rw [if_neg (by omega), if_pos h]
    have t1 : decide (x < y) = false := by simp; omega
    have t2 : decide (y < x) = true := by simpa using h
    clear h
    go_enter Try.func57, Try.ntmps57
    go_wp2_with (go_at_call 77; refine (nan_calls _ _).mono ?_; rintro e w' ⟨rfl, rfl⟩)
    go_ret
    exact ⟨by rw [HC.out]; rfl, rfl⟩
theorem or_calls (q : Nat) (a b : Int) (w : World) (c0 : w.cell? ⟨q, 0, none⟩ = some (.int .i64 a)) (c1 : w.cell? ⟨q, 1, none⟩ = some (.int .i64 b)) :
    Calls Try.prog 63 #[.slice (some ⟨q, 0, none⟩) 2 2] w fun e w' => e = .returned (.int .i64 (orI a b)) ∧ w = w' := by
  go_enter Try.func63, Try.ntmps63
  go_wp2
  go_loop [8] (fun i => ∃ j : Nat, j ≤ 2 ∧ i = .int .i64 j ∧ Hid (1 ≤ j → a = 0) ∧ Hid (2 ≤ j → b = 0)) (fun i => 2 - (intOf i).toNat)
  case atStart => exact ⟨0, by omega, rfl, by unfold Hid; omega, by unfold Hid; omega⟩
  case round =>
    obtain ⟨j, hj, rfl, h1, h2⟩ := hrel
    have hj3 : j = 0 ∨ j = 1 ∨ j = 2 := by omega
    rcases hj3 with rfl | rfl | rfl
    · by_cases ha : a = 0
      · have t : (a != 0) = false := by simpa using ha
        have HA : Hid (a = 0) := ha
        clear ha
        go_wp2
        go_round
        case rel => exact ⟨1, by omega, by go_num, fun _ => HA.out, by unfold Hid; omega⟩
        case measure => simp [intOf]
      · have t : (a != 0) = true := by simpa using ha
        have HO : Hid (orI a b = a) := if_neg ha
        clear ha
        go_wp2
        go_ret
        exact ⟨by rw [HO.out]; rfl, rfl⟩
    · have HA := Lib.hid (h1.out (by omega))
      by_cases hb : b = 0
      · have t : (b != 0) = false := by simpa using hb
        have HB : Hid (b = 0) := hb
        clear hb
        go_wp2
        go_round
        case rel => exact ⟨2, by omega, by go_num, fun _ => HA.out, fun _ => HB.out⟩
        case measure => simp [intOf]
      · have t : (b != 0) = true := by simpa using hb
        have HO : Hid (orI a b = b) := by unfold Hid orI; rw [if_pos HA.out]
        clear hb
        go_wp2
        go_ret
        exact ⟨by rw [HO.out]; rfl, rfl⟩
    · have HO : Hid (orI a b = 0) := by unfold Hid orI; rw [if_pos (h1.out (by omega))]; exact h2.out (by omega)
      go_wp2
      go_ret
      exact ⟨by rw [HO.out]; rfl, rfl⟩
end Go.Proofs.Ythcapomobidnbaa
end
section
/- Small structs of a body's own, each in a block of its own. No program is named here. -/
namespace Go.Sl
open Go Go.RowKit
section
variable {h : Hp} {w0 w : World} {l : List Hp} {b : Nat} {cs : List Value} {T : TypeId}
abbrev Hp.box (b : Nat) (cs : List Value) (T : TypeId) : Hp := Hp.one b (.cells cs.toArray T (0, 0))
theorem Hp.none_put (b : Nat) (o : Obj) : Hp.none.put b o = Hp.one b o := by funext q; simp [Hp.put, Hp.one, Hp.none]
theorem Upd.oneSet (s : (Hp.box b cs T).sub w) (j : Nat) (v : Value) : Upd (Hp.box b cs T) (Hp.box b (cs.set j v) T) w (w.setCell ⟨b, j, .none⟩ v) := by
  have h := (Upd.field (h := Hp.box b cs T) (hr := Hp.none) (r' := Hp.none) (w1 := w) (v := v) j (Hp.one_self b _) s (Hp.none_le _) (Upd.of_below (Below.refl _ _))).1
  rw [Hp.none_put] at h; exact h
theorem Env.weak {k : Hp} (E : Env w0 w l) (i : Nat) (hi : l[i]? = some h) (hk : k.le h) : Env w0 w (l.set i k) := E.upd i hi ⟨rfl, rfl, rfl, Nat.le_refl _, fun _ _ _ => rfl, (E.sub i hi).le hk, fun q hq => .inl fun hn => by
  cases hh : k q with
  | none => exact hq hh
  | some o => rw [hk q o hh] at hn; cases hn⟩
/-- A field is stored. -/
theorem Env.cellset (E : Env w0 w l) (i : Nat) (hi : l[i]? = some (Hp.box b cs T)) (j : Nat) (v : Value) : Env w0 (w.setCell ⟨b, j, .none⟩ v) (l.set i (Hp.box b (cs.set j v) T)) := E.upd i hi (Upd.oneSet (E.sub i hi) j v)
theorem Env.cell (E : Env w0 w l) (i : Nat) (hi : l[i]? = some (Hp.box b cs T)) (j : Nat) {v : Value} (hv : cs[j]? = some v) : w.cell? ⟨b, j, .none⟩ = some v := by
  rw [cell_of_row w b j _ _ _ (E.sub i hi b _ (Hp.one_self b _))]; simpa using hv
theorem Env.free (E : Env w0 w l) (i : Nat) (hi : l[i]? = some (Hp.box b cs T)) (n : Nat) : w.frozen? ⟨b, n, .none⟩ = false := frozen_of_row w b n _ T (E.sub i hi b _ (Hp.one_self b _))
end
theorem Below.drN {B : Nat} {a w : World} (h : Below B a w) (n : Nat) : Below B a (w.drewN n) := h.trans ⟨rfl, rfl, rfl, Nat.le_refl _, fun _ _ => rfl⟩
/-- What was made since the start. -/
theorem Env.made {w0 w : World} {l : List Hp} {h : Hp} (E : Env w0 w l) (m : h ∈ l) : Upd Hp.none h w0 w := ⟨E.low.os, E.low.tape, E.low.output, E.low.size, fun q hq _ => E.low.block q hq, E.own.mem h m, fun q hq => .inr (E.fr h m q hq)⟩
/-- A call that turns nothing, in a quiet region: the first one of a walk, or a later one. -/
theorem quiet_one {P : Program} {f : FuncId} {args : Array Value} {W : World} {n : Nat} {v : Value} (h : Calls P f args (W.drewN n) fun e w' => e = .returned v ∧ W.drewN n = w') :
    Calls P f args (W.drewN n) fun e w' => e = .returned v ∧ ∃ m, w' = W.drewN m := h.mono fun _ _ ⟨a, b⟩ => ⟨a, n, b.symm⟩
theorem quiet_more {P : Program} {f : FuncId} {args : Array Value} {W : World} {k n : Nat} {v : Value} (h : Calls P f args (W.drewN (k + n)) fun e w' => e = .returned v ∧ W.drewN (k + n) = w') :
    Calls P f args (W.drewN (k + n)) fun e w' => e = .returned v ∧ ∃ m, w' = W.drewN (k + m) := h.mono fun _ _ ⟨a, b⟩ => ⟨a, n, b.symm⟩
end Go.Sl
end
section
/- The walk of rate.Right. -/
namespace Go.Proofs.Ythcapomobidnbaa
open Go.RowKit Go.Sl
set_option maxHeartbeats 2000000
theorem rateRight_calls (r : Int) (w : World) : Calls Try.prog 44 #[.int .i64 r] w fun e w' => e = .returned (.bool (rightRate r)) ∧ w = w' := by
  go_enter Try.func44, Try.ntmps44
  go_wp2
  all_goals
    go_ret
    exact ⟨by simp [rightRate]; omega, rfl⟩
end Go.Proofs.Ythcapomobidnbaa
end
section
/- '==' and '!=' of structs as one Bool. No program is named here. -/
namespace Go.Sl
open Go Go.RowKit
section
variable {P : Program} {d : Nat} {xs ys : Array Value} {f : Field} {fs : List Field} {a b : Value} {r s : Bool} {w : World}

theorem eqFields_nil : (Op.eqFields d xs ys []).run P w = .ok true w := by simp [Op.eqFields]
theorem eqFields_cons (hn : (f.name == "_") = false) (ha : (Go.part f.type xs f.offset).run P w = .ok a w) (hb : (Go.part f.type ys f.offset).run P w = .ok b w)
    (he : (Op.equalIn d f.type a b).run P w = .ok r w) (hr : (Op.eqFields d xs ys fs).run P w = .ok s w) : (Op.eqFields d xs ys (f :: fs)).run P w = .ok (r && s) w := by
  have hn' : f.name ≠ "_" := by simpa using hn
  rw [Op.eqFields]
  simp only [if_pos hn', Sem.run_bind, ha, hb, he, Result.andThen_ok]
  cases r
  · simp
  · simpa using hr
theorem equalIn_struct {t : TypeId} {fs : Array Field} (hu : P.underlying t = some (.struct fs)) (hp : P.stoodInHeld t = false)
    (h : (Op.eqFields d xs ys fs.toList).run P w = .ok r w) : (Op.equalIn (d + 1) t (.agg xs) (.agg ys)).run P w = .ok r w := by
  have hf : P.fieldsOf t = fs := by simp [Program.fieldsOf, hu]
  rw [run_equalIn_struct (P := P) w d t xs ys (by rw [hf]; exact hu) hp, hf]
  exact h
theorem neq_struct {t : TypeId} (h : (Op.equalIn 10000 t (.agg xs) (.agg ys)).run P w = .ok r w) : (binOp .neq t (.agg xs) (.agg ys)).run P w = .ok (.bool (!r)) w := by
  rw [run_neq_struct, h]; rfl
theorem eql_struct {t : TypeId} (h : (Op.equalIn 10000 t (.agg xs) (.agg ys)).run P w = .ok r w) : (binOp .eql t (.agg xs) (.agg ys)).run P w = .ok (.bool r) w := by
  rw [run_eql_struct, h]; rfl
end
end Go.Sl
end
