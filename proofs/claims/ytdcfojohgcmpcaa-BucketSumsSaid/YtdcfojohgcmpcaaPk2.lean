/- Walks and plain facts that the laws of this seat share, part 2: contracts of functions, each said at its theorem. -/
import Derived.Test.YtdcfojohgcmpcaaPk1
import Derived.Deep.Draws
import Derived.Shelf.SlSortCmp.WholeK
import Derived.Lib.Bytealg
import Derived.Test.YtdcfojohgcmpcaaChecked
import Derived.Shelf.SlGeneric
import Derived.Lib.Hide
set_option linter.all false
section
/- The memory that a body holds: parts of its own, apart from each other, all made since it began. No program is named here. -/
namespace Go.Sl
open Go Go.RowKit
/-- Of the world w0 nothing has turned; the parts l were made since, and are apart. -/
structure Env (w0 w : World) (l : List Hp) : Prop where
  own : Own w l
  fr : ∀ h ∈ l, ∀ q, h q ≠ Option.none → w0.heap.size ≤ q
  low : Below w0.heap.size w0 w
section
variable {w0 w w1 : World} {l : List Hp} {h h' : Hp}
theorem Env.start (w : World) : Env w w [] := ⟨trivial, fun _ e => absurd e (by simp), Below.refl _ _⟩
theorem Env.below (E : Env w0 w l) (b : Below w.heap.size w w1) : Env w0 w1 l := ⟨E.own.below b, E.fr, E.low.trans (b.mono E.low.size)⟩
theorem Own.snoc {w : World} {h' : Hp} (s : h'.sub w) : ∀ {l : List Hp}, Own w l → (∀ k ∈ l, k.apart h') → Own w (l ++ [h'])
  | [], _, _ => ⟨s, fun _ e => absurd e (by simp), trivial⟩
  | k :: l, o, a => ⟨o.1, fun q hq => by
      rcases List.mem_append.1 hq with hq | hq
      · exact o.2.1 q hq
      · simp at hq; subst hq; exact a k (by simp), o.2.2.snoc s fun q hq => a q (by simp [hq])⟩
theorem Env.new (E : Env w0 w l) (u : Upd Hp.none h' w w1) : Env w0 w1 (l ++ [h']) :=
  ⟨(E.own.below u.below).snoc u.sub fun k hk => (u.apart (fun _ e => absurd rfl e) (E.own.mem k hk)).symm, fun k hk q hq => by
    rcases List.mem_append.1 hk with hk | hk
    · exact E.fr k hk q hq
    · simp at hk; subst hk
      rcases u.dom q hq with e | e
      · exact absurd rfl e
      · exact Nat.le_trans E.low.size e, E.low.trans (u.below.mono E.low.size)⟩
theorem Env.upd (E : Env w0 w l) (i : Nat) (hi : l[i]? = some h) (u : Upd h h' w w1) : Env w0 w1 (l.set i h') :=
  ⟨E.own.upd u i hi, fun k hk q hq => by
    rcases List.mem_or_eq_of_mem_set hk with hk | rfl
    · exact E.fr k hk q hq
    · rcases u.dom q hq with e | e
      · exact E.fr h (List.mem_of_getElem? hi) q e
      · exact Nat.le_trans E.low.size e,
   ⟨u.os.trans E.low.os, u.tape.trans E.low.tape, u.output.trans E.low.output, Nat.le_trans E.low.size u.size, fun q hq => by
    refine (u.keep q (Nat.lt_of_lt_of_le hq E.low.size) ?_).trans (E.low.block q hq)
    cases hh : h q with
    | none => rfl
    | some o => have := E.fr h (List.mem_of_getElem? hi) q (by simp [hh]); omega⟩⟩
theorem Env.sub (E : Env w0 w l) (i : Nat) (hi : l[i]? = some h) : h.sub w := E.own.get i h hi
theorem Env.drop (E : Env w0 w l) (i : Nat) : Env w0 w (l.eraseIdx i) := ⟨E.own.erase i, fun k hk => E.fr k (List.mem_of_mem_eraseIdx hk), E.low⟩
theorem Env.arg (E : Env w0 w l) {k : Hp} (s : k.sub w0) : k.sub w := s.of_below E.low
/-- A new block. -/
theorem Upd.newBlock (w : World) (o : Obj) : Upd Hp.none (Hp.one w.heap.size o) w (w.alloc o) :=
  ⟨rfl, rfl, rfl, by simp, fun q hq _ => heap_old_at hq, Hp.one_sub (heap_new_at rfl), fun q hq => by
    right
    simp only [Hp.one] at hq
    split at hq
    · omega
    · exact absurd rfl hq⟩
theorem Hp.sub.free {h : Hp} {w : World} (s : h.sub w) {b : Nat} (hb : w.heap.size ≤ b) : h b = Option.none := by
  cases hh : h b with
  | none => rfl
  | some o => have := s.lt (b := b) (by simp [hh]); omega
/-- A new block that holds what was made before. -/
theorem Upd.put {o : Obj} (u : Upd Hp.none h' w w1) : Upd Hp.none (h'.put w1.heap.size o) w (w1.alloc o) :=
  ⟨u.os, u.tape, u.output, by simp; exact Nat.le_trans u.size (Nat.le_succ _), fun q hq hn => (heap_old_at (Nat.lt_of_lt_of_le hq u.size)).trans (u.keep q hq hn), Hp.put_sub (u.sub.of_below ((Below.refl _ _).alloc (Nat.le_refl _) _)) (heap_new_at rfl), fun q hq => by
    simp only [Hp.put] at hq
    split at hq
    · right; have := u.size; omega
    · exact u.dom q hq⟩
theorem Env.alloc (E : Env w0 w l) (o : Obj) : Env w0 (w.alloc o) (l ++ [Hp.one w.heap.size o]) := E.new (Upd.newBlock w o)
theorem Env.drew (E : Env w0 w l) : Env w0 w.drew l := E.below ((Below.refl _ _).drew)
theorem Env.drewN (E : Env w0 w l) (n : Nat) : Env w0 (w.drewN n) l := E.below ⟨rfl, rfl, rfl, Nat.le_refl _, fun _ _ => rfl⟩
theorem Env.alloc' (E : Env w0 w l) (o : Obj) : Env w0 (w.alloc o) l := E.below ((Below.refl _ _).alloc (Nat.le_refl _) o)
theorem flatMap_len {α : Type} {size : Nat} {cells : α → List Value} (hl : ∀ x, (cells x).length = size) : ∀ xs : List α, (xs.flatMap cells).length = xs.length * size
  | [] => by simp
  | y :: ys => by simp only [List.flatMap_cons, List.length_append, hl, flatMap_len hl ys, List.length_cons, Nat.add_mul, Nat.one_mul]; omega
/-- A literal of flat elements in a new block, owned. -/
theorem Ow.lit {α : Type} {size : Nat} {cells : α → List Value} {pos : 0 < size} {hl : ∀ x, (cells x).length = size} {h1 : ∀ x, ∀ u ∈ cells x, u.oneCell' = true} {h : Hp} {b : Nat} {t : TypeId} {xs : List α}
    (hb : h b = some (.cells (xs.flatMap cells).toArray t (0, 0))) (hm : xs.length ≤ maxLen) : Ow (Kd.flat size cells pos hl h1) h (some ⟨b, 0, .none⟩) xs.length xs :=
  ⟨Nat.le_refl _, hm, (fun e => (nomatch e)), fun ad e _ => by
    cases e
    refine ⟨b, 0, _, t, rfl, hb, ?_, fun i x hx => ⟨cells x, rfl, fun j u hu => ?_⟩⟩
    · have := flatMap_len hl xs
      simp only [Kd.flat, List.size_toArray, this]; omega
    · rw [Nat.zero_add, List.getElem?_toArray]; exact flatMap_get hl xs i x hx j u hu⟩
/-- The rest of a part turns, one block stands. -/
theorem Upd.rest {k' : Hp} {b : Nat} {o : Obj} (hb : h b = some o) (s : h.sub w) (u : Upd (h.del b) k' w w1) : Upd h (k'.put b o) w w1 ∧ k' b = .none := by
  have hlt := s.lt (b := b) (by simp [hb])
  have hk : k' b = .none := by
    cases hh : k' b with
    | none => rfl
    | some q =>
      rcases u.dom b (by simp [hh]) with e | e
      · exact absurd Hp.del_self e
      · omega
  refine ⟨⟨u.os, u.tape, u.output, u.size, fun q hq hn => u.keep q hq (by simp [Hp.del, hn]), fun q o' e => ?_, fun q e => ?_⟩, hk⟩
  · simp only [Hp.put] at e
    split at e
    · rename_i hq; cases e; rw [hq]; exact (u.keep b hlt Hp.del_self).trans (s b _ hb)
    · exact u.sub q o' e
  · simp only [Hp.put] at e
    split at e
    · rename_i hq; left; rw [hq, hb]; simp
    · rcases u.dom q e with h1 | h1
      · left; intro h0; exact h1 (by simp [Hp.del, h0])
      · exact .inr h1
theorem Own.apart_of {w : World} : ∀ {l : List Hp}, Own w l → ∀ {i j : Nat} {h k : Hp}, l[i]? = some h → l[j]? = some k → i ≠ j → h.apart k
  | [], _, i, j, h, k, e, _, _ => by simp at e
  | a :: l, o, 0, 0, h, k, _, _, n => absurd rfl n
  | a :: l, o, 0, j + 1, h, k, e1, e2, _ => by simp at e1 e2; subst e1; exact o.2.1 k (List.mem_of_getElem? e2)
  | a :: l, o, i + 1, 0, h, k, e1, e2, _ => by simp at e1 e2; subst e2; exact (o.2.1 h (List.mem_of_getElem? e1)).symm
  | a :: l, o, i + 1, j + 1, h, k, e1, e2, n => o.2.2.apart_of (i := i) (j := j) (by simpa using e1) (by simpa using e2) (by omega)
/-- A part is written into, and not told any more. -/
theorem Env.scratch (E : Env w0 w l) (i : Nat) (hi : l[i]? = some h) {b j : Nat} {v : Value} (hb : h b ≠ .none) : Env w0 (w.setCell ⟨b, j, .none⟩ v) (l.eraseIdx i) := by
  have D := E.drop i
  have hB : w0.heap.size ≤ b := E.fr h (List.mem_of_getElem? hi) b hb
  have hn : ∀ k ∈ l.eraseIdx i, k b = .none := fun k hk => by
    obtain ⟨m, hm⟩ := List.mem_iff_getElem?.1 hk
    rw [List.getElem?_eraseIdx] at hm
    split at hm
    · exact E.own.apart_of hi hm (by omega) b hb
    · exact E.own.apart_of hi hm (by omega) b hb
  have G : Below b w (w.setCell ⟨b, j, .none⟩ v) := (Below.refl b w).setCell (Nat.le_refl _) v
  have S : (w.setCell ⟨b, j, .none⟩ v).heap.size = w.heap.size := by simp
  refine ⟨?_, D.fr, D.low.setCell hB v⟩
  have key : ∀ l : List Hp, Own w l → (∀ k ∈ l, k b = .none) → Own (w.setCell ⟨b, j, .none⟩ v) l := by
    intro l
    induction l with
    | nil => exact fun _ _ => trivial
    | cons k l ih =>
      intro o hk
      refine ⟨fun q o' e => ?_, o.2.1, ih o.2.2 fun x hx => hk x (by simp [hx])⟩
      rw [Below.heap_setCell w ⟨b, j, .none⟩ v q (fun hq => by have := hk k (by simp); rw [show q = b from hq, this] at e; cases e)]
      exact o.1 q o' e
  exact key _ D.own hn
end
end Go.Sl
end
section
/- What the shelf's sort of structs does to an owned slice. No program is named here. -/
namespace Go.Sl
open Go Go.RowKit Go.Sort Go.Proofs
section
variable {α : Type} [Inhabited α] {size : Nat} {cells : α → List Value} {pos : 0 < size} {hl : ∀ x, (cells x).length = size} {h1 : ∀ x, ∀ u ∈ cells x, u.oneCell' = true} {h : Hp} {b off cap : Nat} {xs : List α} {w : World}
theorem Ow.holds (o : Ow (Kd.flat size cells pos hl h1) h (some ⟨b, off, .none⟩) cap xs) (s : h.sub w) (hc : 0 < xs.length) : HoldsK cells size w b off xs.toArray := by
  obtain ⟨b', off', cur, E, e, hb, hsz, hrow⟩ := o.row _ rfl (by have := o.le; omega)
  cases e
  have hbw := s b _ hb
  intro t ht
  have ht' : t < xs.length * size := by simpa [size_flatK] using ht
  have hq : t / size < xs.length := (Nat.div_lt_iff_lt_mul pos).2 ht'
  have hm : t % size < size := Nat.mod_lt _ pos
  obtain ⟨cs, hK, hcs⟩ := hrow (t / size) xs[t / size] (by simp [hq])
  have hK' : cs = cells xs[t / size] := hK
  subst hK'
  have hu := hcs (t % size) _ (List.getElem?_eq_getElem (by rw [hl]; exact hm))
  have e2 : off + t / size * size + t % size = off + t := by
    have := Nat.div_add_mod t size
    rw [Nat.mul_comm] at this; omega
  simp only [Kd.flat] at hu
  rw [e2] at hu
  refine ⟨?_, frozen_of_row w b _ cur E hbw⟩
  rw [cell_of_row w b _ cur E (0, 0) hbw, hu, get_flatK _ _ _ t (by simpa using ht')]
  simp only [id]
  have e3 : xs.toArray[t / size]! = xs[t / size] := by simp [hq]
  rw [e3, getElem!_pos _ _ (by rw [hl]; exact hm)]
theorem Ow.sorted (o : Ow (Kd.flat size cells pos hl h1) h (some ⟨b, off, .none⟩) cap xs) (s : h.sub w) (hc : 0 < xs.length) {w' : World} {n : Nat} {d : Array α} {os : Array Obj} (hd : d.size = xs.length) (hw : w' = sortWorldK cells size w b off n d os) :
    ∃ h', Ow (Kd.flat size cells pos hl h1) h' (some ⟨b, off, .none⟩) cap d.toList ∧ Upd h h' w w' := by
  obtain ⟨b', off', cur, E, e, hb, hsz, _⟩ := o.row _ rfl (by have := o.le; omega)
  cases e
  have hbw := s b _ hb
  have hlt := s.lt (b := b) (by simp [hb])
  have hle := o.le
  have hsz' : off + cap * size ≤ cur.size := hsz
  have hfit : xs.length * size ≤ cap * size := Nat.mul_le_mul_right _ hle
  have hblock : ∀ q, q < w.heap.size → w'.heap[q]? = if q = b then some (.cells (putCells id off (flatK cells size d) cur) E (0, 0)) else w.heap[q]? := by
    intro q hq
    subst hw
    show (((w.heap.modify b (onCells (putCells id off (flatK cells size d)))) ++ os)[q]?) = _
    rw [Array.getElem?_append, if_pos (by simpa using hq), Array.getElem?_modify]
    by_cases e : b = q
    · subst e
      rw [if_pos rfl, if_pos rfl, hbw]; rfl
    · rw [if_neg e, if_neg (fun h => e h.symm)]
  refine ⟨h.put b (.cells (putCells id off (flatK cells size d) cur) E), ⟨by simpa [hd] using hle, o.max, o.nil, fun ad e _ => ?_⟩, ?_⟩
  · cases e
    refine ⟨b, off, _, E, rfl, Hp.put_self, by simpa [putCells] using hsz, fun i x hx => ⟨cells x, rfl, fun j u hu => ?_⟩⟩
    have hi : i < d.size := by simpa using (List.getElem?_eq_some_iff.1 hx).1
    have hj : j < size := by rw [← hl x]; exact (List.getElem?_eq_some_iff.1 hu).1
    have ht : i * size + j < d.size * size := by
      have := Nat.mul_le_mul_right size (show i + 1 ≤ d.size from hi); rw [Nat.add_mul, Nat.one_mul] at this; omega
    have e1 : (i * size + j) / size = i := by rw [Nat.mul_comm, Nat.mul_add_div pos, Nat.div_eq_of_lt hj, Nat.add_zero]
    have e2 : (i * size + j) % size = j := by rw [Nat.mul_comm, Nat.mul_add_mod, Nat.mod_eq_of_lt hj]
    have hds : d.size * size = xs.length * size := by rw [hd]
    simp only [Kd.flat, putCells, Array.getElem?_mapIdx]
    rw [Array.getElem?_eq_getElem (by omega)]
    simp only [Option.map_some, size_flatK]
    rw [if_pos (by omega)]
    have e4 : off + i * size + j - off = i * size + j := by omega
    have e5 : d[i]! = x := by
      have h2 := (List.getElem?_eq_some_iff.1 hx).2
      rw [getElem!_pos d i hi]; simpa using h2
    have hu2 := List.getElem?_eq_some_iff.1 hu
    rw [e4, get_flatK _ _ _ _ ht, e1, e2, e5, getElem!_pos _ _ (by rw [hl]; exact hj), hu2.2]; rfl
  · refine ⟨by subst hw; rfl, by subst hw; rfl, by subst hw; rfl, ?_, fun q hq hn => ?_, fun q o2 e2 => ?_, fun q hq => ?_⟩
    · subst hw
      show w.heap.size ≤ ((w.heap.modify b _) ++ os).size
      simp
    · rw [hblock q hq, if_neg (fun e => by rw [e, hb] at hn; cases hn)]
    · simp only [Hp.put] at e2
      split at e2
      · rename_i hq; cases e2; rw [hq, hblock b hlt, if_pos rfl]
      · rename_i hq
        rw [hblock q (s.lt (by simp [e2])), if_neg hq]; exact s q o2 e2
    · left
      simp only [Hp.put] at hq
      split at hq
      · rename_i h2; rw [h2, hb]; simp
      · exact hq
end
/-- A rising list's strict weak order. -/
theorem swo_ord {κ α : Type} (o : Ord κ) (key : α → κ) (lt : α → α → Bool) (h : ∀ x y, lt x y = o.lt (key x) (key y)) : SWO lt where
  irrefl x := by rw [h, o.irrefl]
  trans x y z a b := by rw [h] at *; exact o.trans _ _ _ a b
  ntrans x y z a b := by
    rw [h] at *
    rcases o.tri (key x) (key y) with e | e | e
    · rw [a] at e; cases e
    · rw [e]; exact b
    · rcases o.tri (key y) (key z) with f | f | f
      · rw [b] at f; cases f
      · rw [← f]; exact a
      · exact o.asymm (o.trans _ _ _ f e)
/-- What a list of keys, each once, is when sorted. -/
def isort {κ α : Type} [DecidableEq κ] (o : Ord κ) (key : α → κ) (l : List α) : List α := l.foldr (fun x acc => put o key x acc) []
section
variable {κ α : Type} [DecidableEq κ] {o : Ord κ} {key : α → κ}
theorem isort_rising (l : List α) : Rising o key (isort o key l) := by
  induction l with
  | nil => exact List.Pairwise.nil
  | cons x l ih => exact ih.put o key x
theorem mem_isort {l : List α} (h : l.Pairwise fun x y => key x ≠ key y) {z : α} : z ∈ isort o key l ↔ z ∈ l := by
  induction l with
  | nil => simp [isort]
  | cons x l ih =>
    obtain ⟨a, b⟩ := List.pairwise_cons.1 h
    show z ∈ put o key x (isort o key l) ↔ _
    rw [mem_put, ih b, List.mem_cons]
    constructor
    · rintro (e | ⟨e, _⟩)
      · exact .inl e
      · exact .inr e
    · rintro (e | e)
      · exact .inl e
      · exact .inr ⟨e, fun e2 => a z e e2.symm⟩
theorem isort_of [Inhabited α] {l : List α} (hn : l.Pairwise fun x y => key x ≠ key y) {lt : α → α → Bool} (hlt : ∀ x y, lt x y = o.lt (key x) (key y)) {d : Array α} (hp : PermIn 0 l.length l.toArray d) (hs : SortedIn lt 0 l.length d) : d.toList = isort o key l := by
  obtain ⟨h1, _, h3⟩ := hp
  have h1' : d.size = l.length := by simpa using h1
  have hperm : d.toList.Perm l := by
    have e1 : (d.extract 0 l.length).toList = d.toList := by rw [← h1']; simp
    have e2 : (l.toArray.extract 0 l.length).toList = l := by simp
    rwa [e1, e2] at h3
  refine Rising.ext o key (Rising.of_sorted ?_ ?_) (isort_rising l) fun z => by rw [mem_isort hn]; exact hperm.mem_iff
  · rw [List.pairwise_iff_getElem]
    intro i j hi hj hij
    have hi' : i < d.size := by simpa using hi
    have hj' : j < d.size := by simpa using hj
    have := hs i j (Nat.zero_le _) hij (by omega)
    rw [getElem!_pos d i hi', getElem!_pos d j hj', hlt] at this
    simpa using this
  · exact hperm.symm.pairwise hn fun h => h.symm
end
end Go.Sl
end
section
/- Where a predicate first holds. No program is named here. -/
namespace Go.Sl
/-- Where a predicate first holds; -1: nowhere. -/
def idx {α : Type} (p : α → Bool) (xs : List α) : Int := if xs.any p then (xs.findIdx p : Nat) else -1
theorem idx_any {α : Type} (p : α → Bool) (xs : List α) : decide (0 ≤ idx p xs) = xs.any p := by
  unfold idx; split <;> rename_i h <;> simp [h]
theorem idx_hit {α : Type} {p : α → Bool} {xs : List α} {j : Nat} {x : α} (h : ∀ y ∈ xs.take j, p y = false) (hx : xs[j]? = some x) (hp : p x = true) : idx p xs = j := by
  have hj := (List.getElem?_eq_some_iff.1 hx)
  have ha : xs.any p = true := List.any_eq_true.2 ⟨x, List.mem_of_getElem? hx, hp⟩
  simp only [idx, ha, if_true]
  congr 1
  refine (List.findIdx_eq hj.1).2 ⟨by rw [hj.2]; exact hp, fun i hi => ?_⟩
  have hil : i < xs.length := by have := hj.1; omega
  have := h xs[i] (by rw [List.mem_take_iff_getElem]; exact ⟨i, by omega, rfl⟩)
  simpa using this
theorem idx_miss {α : Type} {p : α → Bool} {xs : List α} (h : ∀ y ∈ xs, p y = false) : idx p xs = -1 := by
  have : xs.any p = false := by rw [List.any_eq_false]; intro y hy; simp [h y hy]
  simp [idx, this]
end Go.Sl
end
section
/- The program's register, its rows in any order, plain. No program is named here. -/
namespace Go.Sl
section
variable {κ α : Type} [DecidableEq κ] {o : Ord κ} {key : α → κ}
theorem isort_perm {l : List α} (h : l.Pairwise fun x y => key x ≠ key y) : (isort o key l).Perm l := by
  induction l with
  | nil => exact List.Perm.refl _
  | cons x l ih =>
    obtain ⟨a, b⟩ := List.pairwise_cons.1 h
    have hn : find key (key x) (isort o key l) = none := by
      unfold find; rw [List.find?_eq_none]; intro y hy
      have := a y ((mem_isort b).1 hy); simpa using this.symm
    have hp := put_perm (o := o) x (isort_rising (o := o) (key := key) l)
    rw [del_none hn] at hp
    exact hp.trans ((ih b).cons x)
theorem find_isort {l : List α} (h : l.Pairwise fun x y => key x ≠ key y) (k : κ) : find key k (isort o key l) = find key k l := by
  cases hf : find key k l with
  | none =>
    unfold find; rw [List.find?_eq_none]; intro y hy
    simpa using find_none hf y ((mem_isort h).1 hy)
  | some y =>
    obtain ⟨h1, rfl⟩ := find_some hf
    exact find_mem (o := o) (isort_rising l) ((mem_isort h).2 h1)
/-- The element of a key is another one. -/
theorem set_map {l : List α} (h : l.Pairwise fun x y => key x ≠ key y) {i : Nat} {x y : α} (hx : l[i]? = some x) : l.set i y = l.map fun z => if key z = key x then y else z := by
  induction l generalizing i with
  | nil => simp at hx
  | cons z l ih =>
    obtain ⟨a, b⟩ := List.pairwise_cons.1 h
    cases i with
    | zero =>
      simp at hx; subst hx
      rw [List.set_cons_zero, List.map_cons, if_pos rfl]
      congr 1
      conv => lhs; rw [← List.map_id l]
      exact List.map_congr_left fun w hw => (if_neg fun e => a w hw (Eq.symm e)).symm
    | succ i =>
      have hx' : l[i]? = some x := by simpa using hx
      rw [List.set_cons_succ, List.map_cons, if_neg (a x (List.mem_of_getElem? hx')), ih b hx']
end
theorem Ow.ne_block {α : Type} {k : Kd α} {h : Hp} {b off cap q : Nat} {xs : List α} (o : Ow k h (some ⟨b, off, .none⟩) cap xs) (h0 : 0 < xs.length) (hq : h q = Option.none) : b ≠ q := fun e => by
  obtain ⟨b', off', cur, E, e', hb, _, _⟩ := o.row _ rfl (by have := o.le; omega)
  cases e'
  rw [e, hq] at hb; cases hb
theorem find_miss' {κ α : Type} [DecidableEq κ] {key : α → κ} {k : κ} {l : List α} (h : ∀ y ∈ l, key y ≠ k) : find key k l = none := by
  unfold find; rw [List.find?_eq_none]; intro y hy; simpa using h y hy
def isB (c y : Int) (x : STri) : Bool := decide (x.a = c ∧ x.b = y)
def zeroB (x : STri) : Bool := decide (x.c = 0)
theorem isB_key {c y : Int} {x : STri} : isB c y x = true ↔ rkey x = (c, y) := by simp [isB, rkey]
abbrev DistR (l : List STri) : Prop := l.Pairwise fun x y => rkey x ≠ rkey y
/-- What set lays, before what is 0 goes. -/
def rawPut (l : List STri) (c y n : Int) : List STri :=
  if l.any (isB c y) then l.map fun z => if rkey z = (c, y) then ⟨c, y, n⟩ else z else if n = 0 then l else l ++ [⟨c, y, n⟩]
def rawSet (l : List STri) (c y n : Int) : List STri := (rawPut l c y n).filter fun z => !zeroB z
/-- The rows r, sorted, are the register l. -/
structure RawR (r l : List STri) : Prop where
  dist : DistR r
  eq : isort ordPair rkey r = l
  good : GoodR l
theorem RawR.nil : RawR [] [] := ⟨List.Pairwise.nil, rfl, .nil⟩
section
variable {r l : List STri}
theorem RawR.perm (R : RawR r l) : r.Perm l := by have := (isort_perm (o := ordPair) R.dist).symm; rwa [R.eq] at this
theorem RawR.len (R : RawR r l) : r.length = l.length := R.perm.length_eq
theorem RawR.mem (R : RawR r l) {x : STri} : x ∈ r ↔ x ∈ l := R.perm.mem_iff
theorem RawR.get (R : RawR r l) (c y : Int) : getB r c y = getB l c y := by
  unfold getB; rw [← R.eq, find_isort R.dist]
theorem RawR.sum (R : RawR r l) : sumC r = sumC l := sum_perm (R.perm.map _)
theorem rawPut_dist (h : DistR r) (c y n : Int) : DistR (rawPut r c y n) := by
  unfold rawPut
  split
  · refine List.pairwise_map.2 (h.imp fun {a b} e => ?_)
    by_cases ha : rkey a = (c, y) <;> by_cases hb : rkey b = (c, y)
    · exact absurd (ha.trans hb.symm) e
    · rw [if_pos ha, if_neg hb]; exact fun e => hb e.symm
    · rw [if_neg ha, if_pos hb]; exact ha
    · rw [if_neg ha, if_neg hb]; exact e
  · rename_i hn
    split
    · exact h
    · refine List.pairwise_append.2 ⟨h, by simp, fun a ha b hb => ?_⟩
      simp at hb; subst hb
      intro e
      exact hn (List.any_eq_true.2 ⟨a, ha, isB_key.2 e⟩)
theorem rawSet_dist (h : DistR r) (c y n : Int) : DistR (rawSet r c y n) := (rawPut_dist h c y n).filter _
theorem mem_rawSet (nz : ∀ b ∈ r, b.c ≠ 0) {c y n : Int} {x : STri} : x ∈ rawSet r c y n ↔ (n ≠ 0 ∧ x = ⟨c, y, n⟩) ∨ x ∈ r ∧ rkey x ≠ (c, y) := by
  have H : ∀ x, x ∈ rawPut r c y n → x.c ≠ 0 → (n ≠ 0 ∧ x = ⟨c, y, n⟩) ∨ x ∈ r ∧ rkey x ≠ (c, y) := by
    intro x hx hc
    unfold rawPut at hx
    split at hx
    · obtain ⟨z, hz, e⟩ := List.mem_map.1 hx
      split at e
      · subst e; exact .inl ⟨hc, rfl⟩
      · rename_i hk; subst e; exact .inr ⟨hz, hk⟩
    · rename_i hn
      have hk : ∀ z ∈ r, rkey z ≠ (c, y) := fun z hz e => hn (List.any_eq_true.2 ⟨z, hz, isB_key.2 e⟩)
      split at hx
      · exact .inr ⟨hx, hk x hx⟩
      · rcases List.mem_append.1 hx with hx | hx
        · exact .inr ⟨hx, hk x hx⟩
        · simp at hx; subst hx; exact .inl ⟨hc, rfl⟩
  constructor
  · intro hx
    obtain ⟨h1, h2⟩ := List.mem_filter.1 hx
    exact H x h1 (by simpa [zeroB] using h2)
  · intro hx
    refine List.mem_filter.2 ?_
    rcases hx with ⟨h0, rfl⟩ | ⟨h, hk⟩
    · refine ⟨?_, by simpa [zeroB] using h0⟩
      unfold rawPut
      split
      · rename_i ha
        obtain ⟨z, hz, e⟩ := List.any_eq_true.1 ha
        exact List.mem_map.2 ⟨z, hz, if_pos (isB_key.1 e)⟩
      · first | simp | (rw [if_neg h0]; simp)
    · refine ⟨?_, by simpa [zeroB] using nz x h⟩
      unfold rawPut
      split
      · exact List.mem_map.2 ⟨x, h, if_neg hk⟩
      · split
        · exact h
        · simp [h]
theorem rawSet_nz (c y n : Int) : ∀ b ∈ rawSet r c y n, b.c ≠ 0 := fun b hb => by simpa [zeroB] using (List.mem_filter.1 hb).2
/-- Sorted, what set leaves is what the register's set leaves. -/
theorem rawSet_eq (h : DistR r) (nz : ∀ b ∈ r, b.c ≠ 0) (c y n : Int) : isort ordPair rkey (rawSet r c y n) = setB (isort ordPair rkey r) c y n := by
  refine Rising.ext ordPair rkey (isort_rising _) (rising_setB (isort_rising _) c y n) fun x => ?_
  rw [mem_isort (rawSet_dist h c y n), mem_rawSet nz, mem_setB, mem_isort h]
theorem RawR.nz (R : RawR r l) : ∀ b ∈ r, b.c ≠ 0 := fun b hb => R.good.nz b (R.mem.1 hb)
theorem rawPut_len (c y n : Int) : (rawPut r c y n).length ≤ r.length + 1 := by
  unfold rawPut; split
  · simp
  · split <;> simp
theorem rawSet_len (c y n : Int) : (rawSet r c y n).length ≤ r.length + 1 := Nat.le_trans (List.length_filter_le _ _) (rawPut_len c y n)
theorem rawSet_len_eq (h : DistR r) (nz : ∀ b ∈ r, b.c ≠ 0) (c y n : Int) : (rawSet r c y n).length = (setB (isort ordPair rkey r) c y n).length := by
  rw [← rawSet_eq h nz]; exact ((isort_perm (rawSet_dist h c y n)).length_eq).symm
/-- Where the bucket is, and what it has. -/
theorem getB_idx (l : List STri) (c y : Int) : (idx (isB c y) l = -1 ∧ getB l c y = 0 ∧ l.any (isB c y) = false) ∨ ∃ (i : Nat) (x : STri), l[i]? = some x ∧ idx (isB c y) l = i ∧ getB l c y = x.c ∧ l.any (isB c y) = true ∧ rkey x = (c, y) := by
  by_cases h : l.any (isB c y) = true
  · right
    have hlt : l.findIdx (isB c y) < l.length := List.findIdx_lt_length.2 (List.any_eq_true.1 h)
    have hp := List.findIdx_getElem (w := hlt)
    refine ⟨l.findIdx (isB c y), l[l.findIdx (isB c y)], by simp [hlt], by unfold idx; rw [if_pos h], ?_, h, isB_key.1 hp⟩
    unfold getB find
    have : l.find? (fun z => decide (rkey z = (c, y))) = some l[l.findIdx (isB c y)] := by
      rw [List.find?_eq_some_iff_getElem]
      refine ⟨by simpa using isB_key.1 hp, l.findIdx (isB c y), hlt, rfl, fun j hj => ?_⟩
      have := List.not_of_lt_findIdx hj
      have hf : isB c y l[j] = false := by simpa using this
      have e : ¬ rkey l[j] = (c, y) := fun e => by rw [isB_key.2 e] at hf; cases hf
      simp [e]
    rw [this]
  · left
    have hn : ∀ z ∈ l, isB c y z = false := fun z hz => by
      cases e : isB c y z with
      | false => rfl
      | true => exact absurd (List.any_eq_true.2 ⟨z, hz, e⟩) h
    refine ⟨idx_miss hn, ?_, by simpa using h⟩
    unfold getB find
    have : l.find? (fun z => decide (rkey z = (c, y))) = none := by
      rw [List.find?_eq_none]; intro z hz; have := hn z hz; intro e; rw [isB_key.2 (by simpa using e)] at this; cases this
    rw [this]
end
end Go.Sl
end
section
/- More structs of the program as plain Lean, and how each lies in memory. No program is named here. -/
namespace Go.Sl
open Go Go.RowKit
/-- SWay, as its cells. -/
structure SWay where
  cls : Int
  yr : Int
  opn : Int
  mov : Int
  clo : Int
instance : DecidableEq SWay := fun x y => decidable_of_iff (x.cls = y.cls ∧ x.yr = y.yr ∧ x.opn = y.opn ∧ x.mov = y.mov ∧ x.clo = y.clo) (by cases x; cases y; simp)
def SWay.cells (x : SWay) : List Value := [.int .i64 x.cls, .int .i64 x.yr, .int .i64 x.opn, .int .i64 x.mov, .int .i64 x.clo]
def kWay : Kd SWay := Kd.flat 5 SWay.cells (by decide) (fun _ => rfl) (fun x u h => by simp [SWay.cells] at h; rcases h with rfl | rfl | rfl | rfl | rfl <;> rfl)
theorem kWay_flat : kWay.Flat := Kd.flat_flat
theorem Sl.way {h : Hp} {A : Option Addr} {cap : Nat} {xs : List SWay} {w : World} (s : Sl kWay h A cap xs) (hs : h.sub w) {i : Nat} {x : SWay} (hx : Hid (xs[i]? = some x)) :
    ∃ b off, A = some ⟨b, off, .none⟩ ∧ w.cell? ⟨b, off + i * 5, .none⟩ = some (.int .i64 x.cls) ∧ w.cell? ⟨b, off + i * 5 + 1, .none⟩ = some (.int .i64 x.yr) ∧ w.cell? ⟨b, off + i * 5 + 2, .none⟩ = some (.int .i64 x.opn) ∧ w.cell? ⟨b, off + i * 5 + 3, .none⟩ = some (.int .i64 x.mov) ∧ w.cell? ⟨b, off + i * 5 + 4, .none⟩ = some (.int .i64 x.clo) := by
  obtain ⟨b, off, cs, e, hK, _, hc⟩ := s.at hs hx.out
  have hK' : cs = SWay.cells x := hK
  subst hK'
  exact ⟨b, off, e, by simpa [kWay, Kd.flat] using hc 0 _ rfl, hc 1 _ rfl, hc 2 _ rfl, hc 3 _ rfl, hc 4 _ rfl⟩
/-- SRate, as its cells. -/
structure SRate where
  j : ByteArray
  yr : Int
  rt : Int
  per : Int
instance : DecidableEq SRate := fun x y => decidable_of_iff (x.j = y.j ∧ x.yr = y.yr ∧ x.rt = y.rt ∧ x.per = y.per) (by cases x; cases y; simp)
def SRate.cells (x : SRate) : List Value := [.string x.j, .int .i64 x.yr, .int .i64 x.rt, .int .i64 x.per]
def kRate : Kd SRate := Kd.flat 4 SRate.cells (by decide) (fun _ => rfl) (fun x u h => by simp [SRate.cells] at h; rcases h with rfl | rfl | rfl | rfl <;> rfl)
theorem kRate_flat : kRate.Flat := Kd.flat_flat
theorem Sl.rate {h : Hp} {A : Option Addr} {cap : Nat} {xs : List SRate} {w : World} (s : Sl kRate h A cap xs) (hs : h.sub w) {i : Nat} {x : SRate} (hx : Hid (xs[i]? = some x)) :
    ∃ b off, A = some ⟨b, off, .none⟩ ∧ w.cell? ⟨b, off + i * 4, .none⟩ = some (.string x.j) ∧ w.cell? ⟨b, off + i * 4 + 1, .none⟩ = some (.int .i64 x.yr) ∧ w.cell? ⟨b, off + i * 4 + 2, .none⟩ = some (.int .i64 x.rt) ∧ w.cell? ⟨b, off + i * 4 + 3, .none⟩ = some (.int .i64 x.per) := by
  obtain ⟨b, off, cs, e, hK, _, hc⟩ := s.at hs hx.out
  have hK' : cs = SRate.cells x := hK
  subst hK'
  exact ⟨b, off, e, by simpa [kRate, Kd.flat] using hc 0 _ rfl, hc 1 _ rfl, hc 2 _ rfl, hc 3 _ rfl⟩
/-- SPair, as its cells. -/
structure SPair where
  s : ByteArray
  b : ByteArray
  amt : Int
instance : DecidableEq SPair := fun x y => decidable_of_iff (x.s = y.s ∧ x.b = y.b ∧ x.amt = y.amt) (by cases x; cases y; simp)
def SPair.cells (x : SPair) : List Value := [.string x.s, .string x.b, .int .i64 x.amt]
def kPair : Kd SPair := Kd.flat 3 SPair.cells (by decide) (fun _ => rfl) (fun x u h => by simp [SPair.cells] at h; rcases h with rfl | rfl | rfl <;> rfl)
theorem kPair_flat : kPair.Flat := Kd.flat_flat
theorem Sl.pair {h : Hp} {A : Option Addr} {cap : Nat} {xs : List SPair} {w : World} (s : Sl kPair h A cap xs) (hs : h.sub w) {i : Nat} {x : SPair} (hx : Hid (xs[i]? = some x)) :
    ∃ b off, A = some ⟨b, off, .none⟩ ∧ w.cell? ⟨b, off + i * 3, .none⟩ = some (.string x.s) ∧ w.cell? ⟨b, off + i * 3 + 1, .none⟩ = some (.string x.b) ∧ w.cell? ⟨b, off + i * 3 + 2, .none⟩ = some (.int .i64 x.amt) := by
  obtain ⟨b, off, cs, e, hK, _, hc⟩ := s.at hs hx.out
  have hK' : cs = SPair.cells x := hK
  subst hK'
  exact ⟨b, off, e, by simpa [kPair, Kd.flat] using hc 0 _ rfl, hc 1 _ rfl, hc 2 _ rfl⟩
end Go.Sl
end
section
/- The order of strings, plain; pairs of them. No program is named here. -/
namespace Go.Sl
open Go Go.RowKit
def cmpS (a b : ByteArray) : Int := Lib.compareBytes a.data.toList b.data.toList
theorem cmpB_self : ∀ l : List UInt8, Lib.compareBytes l l = 0
  | [] => rfl
  | x :: l => by simp [Lib.compareBytes, UInt8.lt_irrefl, cmpB_self l]
theorem cmpB_rng : ∀ a b : List UInt8, Lib.compareBytes a b = -1 ∨ Lib.compareBytes a b = 0 ∨ Lib.compareBytes a b = 1
  | [], [] => by simp [Lib.compareBytes]
  | [], _ :: _ => by simp [Lib.compareBytes]
  | _ :: _, [] => by simp [Lib.compareBytes]
  | a :: az, b :: bs => by
    unfold Lib.compareBytes
    split
    · simp
    · split
      · simp
      · exact cmpB_rng az bs
theorem u8_tri (a b : UInt8) : a < b ∨ a = b ∨ b < a := by
  simp only [UInt8.lt_iff_toNat_lt, ← UInt8.toNat_inj]; omega
theorem cmpB_eq : ∀ {a b : List UInt8}, Lib.compareBytes a b = 0 → a = b
  | [], [], _ => rfl
  | [], _ :: _, h => by simp [Lib.compareBytes] at h
  | _ :: _, [], h => by simp [Lib.compareBytes] at h
  | a :: az, b :: bs, h => by
    unfold Lib.compareBytes at h
    split at h
    · simp at h
    · split at h
      · simp at h
      · rename_i h1 h2
        rcases u8_tri a b with h3 | h3 | h3
        · exact absurd h3 h1
        · rw [h3, cmpB_eq h]
        · exact absurd h3 h2
theorem u8_asymm {a b : UInt8} (h : a < b) : ¬ b < a := by simp only [UInt8.lt_iff_toNat_lt] at *; omega
theorem cmpB_swap : ∀ a b : List UInt8, Lib.compareBytes b a = -Lib.compareBytes a b
  | [], [] => rfl
  | [], _ :: _ => rfl
  | _ :: _, [] => rfl
  | a :: az, b :: bs => by
    unfold Lib.compareBytes
    by_cases h1 : a < b
    · rw [if_pos h1, if_neg (u8_asymm h1), if_pos h1]; rfl
    · by_cases h2 : b < a
      · rw [if_pos h2, if_neg h1, if_pos h2]
      · rw [if_neg h2, if_neg h1, if_neg h1, if_neg h2]; exact cmpB_swap az bs
theorem cmpB_trans : ∀ {a b c : List UInt8}, Lib.compareBytes a b = -1 → Lib.compareBytes b c = -1 → Lib.compareBytes a c = -1
  | [], [], _, h, _ => by simp [Lib.compareBytes] at h
  | [], _ :: _, [], _, h => by simp [Lib.compareBytes] at h
  | [], _ :: _, _ :: _, _, _ => rfl
  | _ :: _, [], _, h, _ => by simp [Lib.compareBytes] at h
  | _ :: _, _ :: _, [], _, h => by simp [Lib.compareBytes] at h
  | a :: az, b :: bs, c :: cs, h1, h2 => by
    unfold Lib.compareBytes at h1 h2 ⊢
    by_cases x1 : a < b
    · by_cases x2 : b < c
      · rw [if_pos (UInt8.lt_trans x1 x2)]
      · rw [if_neg x2] at h2
        by_cases x3 : c < b
        · rw [if_pos x3] at h2; simp at h2
        · have : b = c := by rcases u8_tri b c with h | h | h
                             · exact absurd h x2
                             · exact h
                             · exact absurd h x3
          subst this; rw [if_pos x1]
    · rw [if_neg x1] at h1
      by_cases x3 : b < a
      · rw [if_pos x3] at h1; simp at h1
      · have e : a = b := by rcases u8_tri a b with h | h | h
                             · exact absurd h x1
                             · exact h
                             · exact absurd h x3
        subst e
        rw [if_neg x1] at h1
        by_cases x2 : a < c
        · rw [if_pos x2]
        · rw [if_neg x2] at h2 ⊢
          by_cases x4 : c < a
          · rw [if_pos x4] at h2; simp at h2
          · rw [if_neg x4] at h2 ⊢
            exact cmpB_trans h1 h2
theorem ba_ext {a b : ByteArray} (h : a.data.toList = b.data.toList) : a = b := by
  cases a; cases b; congr 1; exact Array.toList_inj.1 h
theorem cmpS_eq {a b : ByteArray} : cmpS a b = 0 ↔ a = b := ⟨fun h => ba_ext (cmpB_eq h), fun h => by rw [h]; exact cmpB_self _⟩
/-- By the first, then the second. -/
def ordStr2 : Ord (ByteArray × ByteArray) := ⟨fun x y => decide (cmpS x.1 y.1 = -1 ∨ x.1 = y.1 ∧ cmpS x.2 y.2 = -1), by
    intro x; simp [cmpS, cmpB_self], by
    intro x y z h1 h2
    simp only [decide_eq_true_eq] at *
    rcases h1 with h1 | ⟨e1, h1⟩ <;> rcases h2 with h2 | ⟨e2, h2⟩
    · exact .inl (cmpB_trans h1 h2)
    · rw [← e2]; exact .inl h1
    · rw [e1]; exact .inl h2
    · exact .inr ⟨e1.trans e2, cmpB_trans h1 h2⟩, by
    intro x y
    simp only [decide_eq_true_eq]
    have s1 : cmpS y.1 x.1 = -cmpS x.1 y.1 := cmpB_swap _ _
    have s2 : cmpS y.2 x.2 = -cmpS x.2 y.2 := cmpB_swap _ _
    rcases cmpB_rng x.1.data.toList y.1.data.toList with h | h | h
    · exact .inl (.inl h)
    · have e := cmpS_eq.1 h
      rcases cmpB_rng x.2.data.toList y.2.data.toList with h' | h' | h'
      · exact .inl (.inr ⟨e, h'⟩)
      · exact .inr (.inl (Prod.ext e (cmpS_eq.1 h')))
      · exact .inr (.inr (.inr ⟨e.symm, by rw [s2, show cmpS x.2 y.2 = 1 from h']⟩))
    · exact .inr (.inr (.inl (by rw [s1, show cmpS x.1 y.1 = 1 from h])))⟩
def pkey (x : SPair) : ByteArray × ByteArray := (x.s, x.b)
end Go.Sl
end
section
/- Profit that is still in the group, plain. -/
namespace Go.Sl
open Go Go.RowKit
def noS (b : ByteArray) : Bool := b.toList.isEmpty
def hasP (l : List SPair) (s b : ByteArray) : Int := match find pkey (s, b) l with | some r => r.amt | none => 0
def isP (s b : ByteArray) (x : SPair) : Bool := decide (x.s = s ∧ x.b = b)
def nextP (l : List SPair) (s b : ByteArray) (v : Int) : List SPair := (l.filter fun x => !isP s b x) ++ (if v = 0 then [] else [⟨s, b, v⟩])
def addE (l : List SPair) (s b : ByteArray) (n : Int) : Int :=
  if (noS s || (noS b || (decide (s = b) || !money n))) = true then 1
  else if (decide (hasP l s b + n < 0) || !money (hasP l s b + n)) = true then 6
  else if 8 < (nextP l s b (hasP l s b + n)).length then 5 else 0
def addW (l : List SPair) (s b : ByteArray) (n : Int) : List SPair := if addE l s b n = 0 then isort ordStr2 pkey (nextP l s b (hasP l s b + n)) else l
/-- What holds of all. -/
structure GoodP (l : List SPair) : Prop where
  rise : Rising ordStr2 pkey l
  amt : ∀ x ∈ l, 1 ≤ x.amt ∧ x.amt ≤ 100000000000
  len : l.length ≤ 8
theorem GoodP.nil : GoodP [] := ⟨List.Pairwise.nil, by simp, by simp⟩
theorem filter_isP (l : List SPair) (s b : ByteArray) : (l.filter fun x => !isP s b x) = del pkey (s, b) l := by
  unfold del
  congr 1; funext x
  simp [isP, pkey]
theorem nextP_dist {l : List SPair} (h : Rising ordStr2 pkey l) (s b : ByteArray) (v : Int) : (nextP l s b v).Pairwise fun x y => pkey x ≠ pkey y := by
  unfold nextP
  rw [filter_isP]
  refine List.pairwise_append.2 ⟨(h.del ordStr2 pkey _).imp fun e => ordStr2.ne e, by split <;> simp, fun x hx y hy => ?_⟩
  split at hy
  · cases hy
  · simp at hy; subst hy
    exact (mem_del pkey |>.1 hx).2
theorem nextP_put {l : List SPair} (h : Rising ordStr2 pkey l) (s b : ByteArray) (v : Int) : isort ordStr2 pkey (nextP l s b v) = if v = 0 then del pkey (s, b) l else put ordStr2 pkey ⟨s, b, v⟩ l := by
  refine Rising.ext ordStr2 pkey (isort_rising _) ?_ fun x => ?_
  · split
    · exact h.del _ _ _
    · exact h.put _ _ _
  · rw [mem_isort (nextP_dist h s b v)]
    unfold nextP
    rw [filter_isP, List.mem_append]
    split
    · simp
    · rw [mem_put, mem_del]
      simp only [List.mem_singleton]
      constructor
      · rintro (h | h)
        · exact .inr h
        · exact .inl h
      · rintro (h | h)
        · exact .inr h
        · exact .inl h
theorem hasP_bd {l : List SPair} (g : GoodP l) (s b : ByteArray) : 0 ≤ hasP l s b ∧ hasP l s b ≤ 100000000000 := by
  unfold hasP
  split
  · rename_i r hr
    have := g.amt r (find_some hr).1; omega
  · omega
theorem addE_ok {l : List SPair} {s b : ByteArray} {n : Int} (h : addE l s b n = 0) : 0 ≤ hasP l s b + n ∧ hasP l s b + n ≤ 100000000000 ∧ (nextP l s b (hasP l s b + n)).length ≤ 8 := by
  unfold addE at h
  split at h
  · cases h
  · split at h
    · cases h
    · split at h
      · cases h
      · rename_i h1 h2 h3
        simp [money] at h2
        omega
theorem isort_length {l : List SPair} (h : l.Pairwise fun x y => pkey x ≠ pkey y) : (isort ordStr2 pkey l).length = l.length := by
  induction l with
  | nil => rfl
  | cons x l ih =>
    obtain ⟨h1, h2⟩ := List.pairwise_cons.1 h
    show (put ordStr2 pkey x (isort ordStr2 pkey l)).length = _
    have hn : find pkey (pkey x) (isort ordStr2 pkey l) = none := by
      unfold find; rw [List.find?_eq_none]; intro y hy
      have := h1 y ((mem_isort h2).1 hy)
      simpa using this.symm
    rw [len_put x (isort_rising l), del_none hn, ih h2]; rfl
theorem GoodP.add {l : List SPair} (g : GoodP l) (s b : ByteArray) (n : Int) : GoodP (addW l s b n) := by
  unfold addW
  split
  · rename_i h
    obtain ⟨h1, h2, h3⟩ := addE_ok h
    have hd := nextP_dist g.rise s b (hasP l s b + n)
    refine ⟨isort_rising _, fun x hx => ?_, by rw [isort_length hd]; exact h3⟩
    have hx := (mem_isort hd).1 hx
    unfold nextP at hx
    rcases List.mem_append.1 hx with hx | hx
    · exact g.amt x (List.mem_filter.1 hx).1
    · split at hx
      · cases hx
      · simp at hx; subst hx; show 1 ≤ hasP l s b + n ∧ hasP l s b + n ≤ 100000000000; omega
  · exact g
theorem hasP_idx (l : List SPair) (s b : ByteArray) : (idx (isP s b) l = -1 ∧ hasP l s b = 0) ∨ ∃ (i : Nat) (x : SPair), l[i]? = some x ∧ idx (isP s b) l = i ∧ hasP l s b = x.amt := by
  by_cases h : l.any (isP s b) = true
  · right
    have hlt : l.findIdx (isP s b) < l.length := List.findIdx_lt_length.2 (List.any_eq_true.1 h)
    refine ⟨l.findIdx (isP s b), l[l.findIdx (isP s b)], by simp [hlt], by unfold idx; rw [if_pos h], ?_⟩
    have hp := List.findIdx_getElem (w := hlt)
    unfold hasP find
    have : l.find? (fun y => decide (pkey y = (s, b))) = some l[l.findIdx (isP s b)] := by
      rw [List.find?_eq_some_iff_getElem]
      refine ⟨by simpa [isP, pkey] using hp, l.findIdx (isP s b), hlt, rfl, fun j hj => ?_⟩
      have := List.not_of_lt_findIdx hj
      have hf : isP s b l[j] = false := by simpa using this
      have e : isP s b l[j] = decide (pkey l[j] = (s, b)) := by simp [isP, pkey]
      rw [← e, hf]; rfl
    rw [this]
  · left
    have hn : ∀ y ∈ l, isP s b y = false := fun y hy => by
      cases e : isP s b y with
      | false => rfl
      | true => exact absurd (List.any_eq_true.2 ⟨y, hy, e⟩) h
    refine ⟨idx_miss hn, ?_⟩
    unfold hasP find
    have : l.find? (fun y => decide (pkey y = (s, b))) = none := by
      rw [List.find?_eq_none]; intro y hy; have := hn y hy; simpa [isP, pkey] using this
    rw [this]
/-- A struct's own: one slice of a kind. -/
def kOne {α : Type} (k : Kd α) : Kd (List α) where
  size := 1
  K h l cs := ∃ A cap, cs = [.slice A l.length cap] ∧ Ow k h A cap l
  pos := by decide
  len := by rintro h x cs ⟨A, cap, rfl, _⟩; rfl
  one := by rintro h x cs ⟨A, cap, rfl, _⟩ u hu; simp at hu; subst hu; rfl
  mono := by rintro h h' x cs ⟨A, cap, e, s⟩ l; exact ⟨A, cap, e, s.mono l⟩
theorem Pt.one {α : Type} {k : Kd α} {T : TypeId} {h : Hp} {b : Nat} {l : List α} {w : World} (p : Pt (kOne k) T h b l) (s : h.sub w) : ∃ A ca, h b = some (.cells #[.slice A l.length ca] T (0, 0)) ∧ w.cell? ⟨b, 0, .none⟩ = some (.slice A l.length ca) ∧ Ow k (h.del b) A ca l ∧ ∀ n, w.frozen? ⟨b, n, .none⟩ = false := by
  obtain ⟨cs, hb, A, ca, rfl, ow⟩ := p
  exact ⟨A, ca, hb, by rw [cell_of_row w b 0 _ _ _ (s b _ hb)]; rfl, ow, fun n => frozen_of_row w b n _ _ (s b _ hb)⟩
end Go.Sl
end
section
/- The library's slices.SortFunc over api.Bucket, laid at this program in plain words. -/
namespace Go.Proofs
open Go.Shelf
def Try.sortBucket_ren : Go.Shelf.Ren := ⟨fun | 6 => 90 | 15 => 109 | 14 => 117 | 28 => 139 | 29 => 140 | 20 => 150 | 21 => 151 | 22 => 152 | 23 => 153 | 24 => 154 | 25 => 155 | 26 => 156 | 27 => 157 | 46 => 175 | 47 => 168 | 48 => 169 | 49 => 176 | 50 => 177 | 57 => 184 | n => n, fun | 22 => 77 | 24 => 81 | 25 => 139 | 3 => 3 | 39 => 153 | 0 => 0 | 53 => 171 | 55 => 173 | 4 => 4 | 46 => 165 | 45 => 164 | 50 => 114 | 5 => 5 | 9 => 9 | 66 => 192 | 70 => 196 | 76 => 208 | 77 => 209 | n => n, fun | n => n⟩
theorem Try.sortBucket : Go.Proofs.SlLaysF0.n6 Try.prog Try.sortBucket_ren := {
  mixed := by kernel_rfl
  f6 := ⟨Try.f90.name, by decide, Try.func90.trans (congrArg some (by kernel_rfl))⟩
  f14 := ⟨Try.f117.name, by decide, Try.func117.trans (congrArg some (by kernel_rfl))⟩
  f15 := Try.func109.trans (congrArg some (by kernel_rfl))
  f20 := ⟨Try.f150.name, by decide, Try.func150.trans (congrArg some (by kernel_rfl))⟩
  f21 := ⟨Try.f151.name, by decide, Try.func151.trans (congrArg some (by kernel_rfl))⟩
  f22 := ⟨Try.f152.name, by decide, Try.func152.trans (congrArg some (by kernel_rfl))⟩
  f23 := ⟨Try.f153.name, by decide, Try.func153.trans (congrArg some (by kernel_rfl))⟩
  f24 := ⟨Try.f154.name, by decide, Try.func154.trans (congrArg some (by kernel_rfl))⟩
  f25 := ⟨Try.f155.name, by decide, Try.func155.trans (congrArg some (by kernel_rfl))⟩
  f26 := ⟨Try.f156.name, by decide, Try.func156.trans (congrArg some (by kernel_rfl))⟩
  f27 := ⟨Try.f157.name, by decide, Try.func157.trans (congrArg some (by kernel_rfl))⟩
  f28 := Try.func139.trans (congrArg some (by kernel_rfl))
  f29 := Try.func140.trans (congrArg some (by kernel_rfl))
  f46 := ⟨Try.f175.name, by decide, Try.func175.trans (congrArg some (by kernel_rfl))⟩
  f47 := Try.func168.trans (congrArg some (by kernel_rfl))
  f48 := Try.func169.trans (congrArg some (by kernel_rfl))
  f49 := ⟨Try.f176.name, by decide, Try.func176.trans (congrArg some (by kernel_rfl))⟩
  f50 := ⟨Try.f177.name, by decide, Try.func177.trans (congrArg some (by kernel_rfl))⟩
  f57 := ⟨Try.f184.name, by decide, Try.func184.trans (congrArg some (by kernel_rfl))⟩
  t0 := Try.underlying0
  a0 := Try.isAgg0
  z0 := Try.sizeOf0
  v0 := Try.zeroValue0
  t3 := Try.underlying3
  a3 := Try.isAgg3
  z3 := Try.sizeOf3
  v3 := Try.zeroValue3
  t4 := Try.underlying4
  a4 := Try.isAgg4
  z4 := Try.sizeOf4
  v4 := Try.zeroValue4
  t5 := Try.underlying5
  a5 := Try.isAgg5
  z5 := Try.sizeOf5
  v5 := Try.zeroValue5
  t9 := Try.underlying9
  a9 := Try.isAgg9
  z9 := Try.sizeOf9
  v9 := Try.zeroValue9
  t22 := Try.underlying77
  a22 := Try.isAgg77
  z22 := Try.sizeOf77
  v22 := Try.zeroValue77
  t25 := Try.underlying139
  a25 := Try.isAgg139
  z25 := Try.sizeOf139
  v25 := Try.zeroValue139
  t39 := Try.underlying153
  a39 := Try.isAgg153
  z39 := Try.sizeOf153
  v39 := Try.zeroValue153
  t45 := Try.underlying164
  a45 := Try.isAgg164
  z45 := Try.sizeOf164
  v45 := Try.zeroValue164
  t46 := Try.underlying165
  a46 := Try.isAgg165
  z46 := Try.sizeOf165
  v46 := Try.zeroValue165
  t50 := Try.underlying114
  a50 := Try.isAgg114
  z50 := Try.sizeOf114
  v50 := Try.zeroValue114
  t53 := Try.underlying171
  a53 := Try.isAgg171
  z53 := Try.sizeOf171
  v53 := Try.zeroValue171
  t55 := Try.underlying173
  a55 := Try.isAgg173
  z55 := Try.sizeOf173
  v55 := Try.zeroValue173
  t66 := Try.underlying192
  a66 := Try.isAgg192
  z66 := Try.sizeOf192
  v66 := Try.zeroValue192
  t70 := Try.underlying196
  a70 := Try.isAgg196
  z70 := Try.sizeOf196
  v70 := Try.zeroValue196
  t76 := Try.underlying208
  a76 := Try.isAgg208
  z76 := Try.sizeOf208
  v76 := Try.zeroValue208
  t77 := Try.underlying209
  a77 := Try.isAgg209
  z77 := Try.sizeOf209
  v77 := Try.zeroValue209 }
end Go.Proofs
end
section
/- The walks of the small functions: keep.Within, play.Amount, rate.Money, rate.Of, and the document's Of. -/
namespace Go.Proofs.Ytdcfojohgcmpcaa
open Go.RowKit Go.Sl
set_option maxHeartbeats 400000

theorem within_calls (v n : Int) (w : World) (h : 0 < n) (hn : n ≤ 9223372036854775807) :
    Calls Try.prog 15 #[.int .i64 v, .int .i64 n] w fun e w' => e = .returned (.int .i64 (within v n)) ∧ w = w' := by
  have h0 : (n == 0) = false := by simp; omega
  have h1 : decide (n < 1) = false := by simp; omega
  by_cases hk : v.tmod n < 0
  · have e := Lib.hid (tmod_emod_neg h hk)
    have hlo : -n < v.tmod n := Int.lt_tmod_of_pos _ h
    go_enter Try.func15, Try.ntmps15
    go_wp2
    go_ret
    exact ⟨by rw [e.out]; rfl, rfl⟩
  · have e := Lib.hid (tmod_emod_pos h hk)
    go_enter Try.func15, Try.ntmps15
    go_wp2
    go_ret
    exact ⟨by rw [e.out]; rfl, rfl⟩

theorem money_calls (n : Int) (w : World) : Calls Try.prog 65 #[.int .i64 n] w fun e w' => e = .returned (.bool (money n)) ∧ w = w' := by
  go_enter Try.func65, Try.ntmps65
  go_wp2
  all_goals
    go_ret
    exact ⟨by simp [money]; omega, rfl⟩

theorem of_calls (n r : Int) (w : World) : Calls Try.prog 66 #[.int .i64 n, .int .i64 r] w fun e w' => e = .returned (.tuple #[.int .i64 (ofVal n r), .bool (ofOk n r)]) ∧ w = w' := by
  by_cases hok : -400000000000 ≤ n ∧ n ≤ 400000000000 ∧ 0 ≤ r ∧ r ≤ 10000000
  · obtain ⟨h1, h2, h3, h4⟩ := hok
    obtain ⟨p1, p2⟩ := mul_bd h1 h2 h3 h4
    have e1 : ofOk n r = true := by simp [ofOk]; omega
    have e2 : ofVal n r = partOf n r := by simp [ofVal, e1]
    rw [e1, e2]
    clear e1 e2
    go_enter Try.func66, Try.ntmps66
    go_wp2
    all_goals first | (exfalso; omega) | skip
    all_goals
      go_ret2
      refine ⟨?_, rfl⟩
      unfold partOf
      first | (rw [if_pos (by assumption)]; rfl) | (rw [if_neg (by omega)]; rfl)
  · have e1 : ofOk n r = false := by simp [ofOk]; omega
    have e2 : ofVal n r = 0 := by simp [ofVal, e1]
    rw [e1, e2]
    clear e1 e2
    go_enter Try.func66, Try.ntmps66
    go_wp2
    all_goals first | (exfalso; omega) | skip
    all_goals
      go_ret2
      exact ⟨rfl, rfl⟩

theorem amount_calls (n : Int) (hw : -9223372036854775808 ≤ n ∧ n ≤ 9223372036854775807) (w : World) :
    Calls Try.prog 30 #[.int .i64 n] w fun e w' => e = .returned (.int .i64 (amount n)) ∧ w = w' := by
  obtain ⟨w1, w2⟩ := hw
  have a5 := within_lo (n.tdiv 23) (n := 5) (by omega)
  have b5 := within_hi (n.tdiv 23) (n := 5) (by omega)
  have a2 := within_lo (n.tdiv 23) (n := 200000000001) (by omega)
  have b2 := within_hi (n.tdiv 23) (n := 200000000001) (by omega)
  have a4 := within_lo n (n := 4001) (by omega)
  have b4 := within_hi n (n := 4001) (by omega)
  by_cases c1 : n.tmod 23 = 20
  · have b1 : (n.tmod 23 == 20) = true := by simpa using c1
    have e := Lib.hid (show amount n = 100000000000 - within (n.tdiv 23) 5 + 2 by simp [amount, c1])
    clear c1
    go_enter Try.func30, Try.ntmps30
    go_wp2_with (go_at_call 15; refine (within_calls _ _ _ (by omega) (by omega)).mono ?_; rintro e w' ⟨rfl, rfl⟩)
    go_ret
    exact ⟨by rw [e.out]; rfl, rfl⟩
  have b1 : (n.tmod 23 == 20) = false := by simpa using c1
  by_cases c2 : n.tmod 23 = 21
  · have b1 : (n.tmod 23 == 21) = true := by simpa using c2
    have e := Lib.hid (show amount n = -100000000000 + within (n.tdiv 23) 5 - 2 by simp [amount, c2])
    clear c1 c2
    go_enter Try.func30, Try.ntmps30
    go_wp2_with (go_at_call 15; refine (within_calls _ _ _ (by omega) (by omega)).mono ?_; rintro e w' ⟨rfl, rfl⟩)
    go_ret
    exact ⟨by rw [e.out]; rfl, rfl⟩
  have d1 : (n.tmod 23 == 21) = false := by simpa using c2
  by_cases c3 : n.tmod 23 = 22
  · have b1 : (n.tmod 23 == 22) = true := by simpa using c3
    have e := Lib.hid (show amount n = n by simp [amount, c3])
    clear c1 c2 c3
    go_enter Try.func30, Try.ntmps30
    go_wp2
    go_ret
    exact ⟨by rw [e.out]; rfl, rfl⟩
  have d2 : (n.tmod 23 == 22) = false := by simpa using c3
  by_cases c4 : n.tmod 23 = 19
  · have b1 : (n.tmod 23 == 19) = true := by simpa using c4
    have e := Lib.hid (show amount n = within (n.tdiv 23) 200000000001 - 100000000000 by simp [amount, c4])
    clear c1 c2 c3 c4
    go_enter Try.func30, Try.ntmps30
    go_wp2_with (go_at_call 15; refine (within_calls _ _ _ (by omega) (by omega)).mono ?_; rintro e w' ⟨rfl, rfl⟩)
    go_ret
    exact ⟨by rw [e.out]; rfl, rfl⟩
  · have d3 : (n.tmod 23 == 19) = false := by simpa using c4
    have e := Lib.hid (show amount n = within n 4001 - 2000 by simp [amount, c1, c2, c3, c4])
    clear c1 c2 c3 c4
    go_enter Try.func30, Try.ntmps30
    go_wp2_with (go_at_call 15; refine (within_calls _ _ _ (by omega) (by omega)).mono ?_; rintro e w' ⟨rfl, rfl⟩)
    go_ret
    exact ⟨by rw [e.out]; rfl, rfl⟩

theorem refOf_pos (n r : Int) (h : 0 ≤ n) (w : World) : Calls Try.prog 111 #[.int .i64 n, .int .i64 r] w fun e w' => e = .returned (.tuple #[.int .i64 (ofVal n r), .bool (ofOk n r)]) ∧ w = w' := by
  have hn : (n == 0) = true ∨ (n == 0) = false := by cases (n == 0) <;> simp
  by_cases hok : n ≤ 400000000000 ∧ 0 ≤ r ∧ r ≤ 10000000
  · obtain ⟨h2, h3, h4⟩ := hok
    obtain ⟨p1, p2⟩ := mul_bd (n := n) (by omega) h2 h3 h4
    have e1 : ofOk n r = true := by simp [ofOk]; omega
    have e2 : ofVal n r = partOf n r := by simp [ofVal, e1]
    have p3 : 0 ≤ n * r := Int.mul_nonneg h h3
    have p4 : n * r ≤ 4000000000000000000 := by rw [Int.mul_assoc] at p2; omega
    have p5 : partOf n r = if 2 * (n * r % 1000000) ≥ 1000000 then n * r / 1000000 + 1 else n * r / 1000000 := by
      unfold partOf
      rw [if_neg (by omega), Int.mul_assoc, Int.tdiv_eq_ediv_of_nonneg (by omega)]
      split <;> omega
    have P5 := Lib.hid p5
    rw [e1, e2]
    clear e1 e2 p1 p2 p5 hn
    go_enter Try.func111, Try.ntmps111
    go_wp2
    all_goals first | (exfalso; omega) | skip
    all_goals
      go_ret2
      refine ⟨?_, rfl⟩
      rw [P5.out]
      first | (rw [if_pos (by omega)]; rfl) | (rw [if_neg (by omega)]; rfl)
  · have e1 : ofOk n r = false := by simp [ofOk]; omega
    have e2 : ofVal n r = 0 := by simp [ofVal, e1]
    rw [e1, e2]
    clear e1 e2 hn
    go_enter Try.func111, Try.ntmps111
    go_wp2
    all_goals first | (exfalso; omega) | skip
    all_goals
      go_ret2
      exact ⟨rfl, rfl⟩
theorem refOf_calls (n r : Int) (w : World) : Calls Try.prog 111 #[.int .i64 n, .int .i64 r] w fun e w' => e = .returned (.tuple #[.int .i64 (ofVal n r), .bool (ofOk n r)]) ∧ w = w' := by
  by_cases h : 0 ≤ n
  · exact refOf_pos n r h w
  have hb := ofVal_neg n r
  by_cases hok : -400000000000 ≤ n ∧ 0 ≤ r ∧ r ≤ 10000000
  · obtain ⟨h2, h3, h4⟩ := hok
    have e1 : ofOk n r = true := by simp [ofOk]; omega
    have e3 := ofOk_neg n r
    have e2 : -ofVal (-n) r = ofVal n r := by omega
    obtain ⟨b1, b2⟩ := ofVal_bd (-n) r
    have E2 := Lib.hid e2
    have E1 := Lib.hid e1
    have C := refOf_pos (-n) r (by omega)
    rw [e3, e1] at C
    have hlt : n < 0 := by omega
    rw [e1]
    clear e1 e2 e3 hb h
    go_enter Try.func111, Try.ntmps111
    go_wp2_with (go_at_call 111; refine (C _).mono ?_; rintro e w' ⟨rfl, rfl⟩)
    all_goals first | (exfalso; omega) | skip
    all_goals
      go_ret2
      exact ⟨by rw [← E2.out]; rfl, rfl⟩
  · have e1 : ofOk n r = false := by simp [ofOk]; omega
    have e2 : ofVal n r = 0 := by simp [ofVal, e1]
    rw [e1, e2]
    clear e1 e2 hb
    go_enter Try.func111, Try.ntmps111
    go_wp2_with fail
    all_goals first | (exfalso; omega) | skip
    all_goals
      go_ret2
      exact ⟨rfl, rfl⟩
end Go.Proofs.Ytdcfojohgcmpcaa
end
section
/- What the type table says of api.Bucket. -/
namespace Go.Proofs.Ytdcfojohgcmpcaa
open Go.RowKit Go.Sl
set_option maxHeartbeats 1000000
set_option maxRecDepth 100000
theorem info_bucket : Info Try.prog 81 (.agg #[.int .i64 0, .int .i64 0, .int .i64 0]) 3 24 := by unfold Info; kernel_rfl
end Go.Proofs.Ytdcfojohgcmpcaa
end
section
/- append onto a slice in a body's own memory. No program is named here. -/
namespace Go.Sl
open Go Go.RowKit
section
variable {P : Program} {α : Type} {k : Kd α} {h hx : Hp} {A B : Option Addr} {cap : Nat} {xs ys : List α} {w0 w : World} {l : List Hp}
theorem Env.at_mem (E : Env w0 w l) {h : Hp} (m : h ∈ l) : h.sub w := E.own.mem h m
/-- One flat element. -/
theorem wpList_eapp {ops : Array Oper} {rest : List Oper} {op : Oper} {a : Act} {Q : Exit → Act → World → Prop} {sx xx : Operand} {t e : TypeId} {z : Value} {bytes : Nat} {cs : List Value} {T : TypeId} {fr : Nat × Nat} {b : Nat}
    (i : Nat) (y : α) (ht : P.underlying t = some (.slice e)) (hinfo : Info P e z k.size bytes) (E : Env w0 w l) (hi : l[i]? = some h) (o : Ow k h A cap xs) (n : Nat) (hn : xs.length = n)
    (hzs : z.cells.size = k.size) (hgd : Region.wanted op (yielded ops a.tmps) = true)
    (ho : op.op = .call { callee := .builtin .append, args := #[sx, xx], argTypes := #[t, t] }) (c : Nat) (hsv : a.eval sx = .slice A n cap) (hxv : a.eval xx = .slice (some ⟨b, 0, none⟩) 1 c)
    (hb : w.heap[b]? = some (.cells cs.toArray T fr)) (hK : k.K Hp.none y cs)
    (hm : n + 1 ≤ 1000000000) (hby : bytes ≤ 1000)
    (H : ∀ A' cap' w' h', Ow k h' A' cap' (xs ++ [y]) → Env w0 w' (l.set i h') → wpList P ops Q rest (a.put op.dst (.slice A' (n + 1) cap')) w') : wpList P ops Q (op :: rest) a w :=
  wpList_app1f ht hinfo hzs hgd ho n c hsv hxv hn o (E.sub i hi) hb hK hm hby fun A' cap' w' h' h1 h2 => H A' cap' w' h' h1 (E.upd i hi h2)
/-- A whole slice of flat elements. -/
theorem wpList_eappF {ops : Array Oper} {rest : List Oper} {op : Oper} {a : Act} {Q : Exit → Act → World → Prop} {sx xx : Operand} {t e : TypeId} {z : Value} {bytes cb : Nat}
    (i : Nat) (ht : P.underlying t = some (.slice e)) (hinfo : Info P e z k.size bytes) (E : Env w0 w l) (hi : l[i]? = some h) (o : Ow k h A cap xs) (sy : Sl k hx B cb ys) (sx' : hx.sub w) (n m : Nat) (hn : xs.length = n) (hm' : ys.length = m)
    (f : k.Flat) (hzs : z.cells.size = k.size) (hgd : Region.wanted op (yielded ops a.tmps) = true)
    (ho : op.op = .call { callee := .builtin .append, args := #[sx, xx], argTypes := #[t, t] }) (c : Nat) (hsv : a.eval sx = .slice A n cap) (hxv : a.eval xx = .slice B m c)
    (hm : n + m ≤ 1000000000) (hby : bytes ≤ 1000)
    (H : ∀ A' cap' w' h', Ow k h' A' cap' (xs ++ ys) → Env w0 w' (l.set i h') → wpList P ops Q rest (a.put op.dst (.slice A' (n + m) cap')) w') : wpList P ops Q (op :: rest) a w :=
  wpList_appF ht hinfo hzs hgd ho n m c hsv hxv hn hm' f o (E.sub i hi) sy sx' hm hby fun A' cap' w' h' h1 h2 => H A' cap' w' h' h1 (E.upd i hi h2)
end
end Go.Sl
end
