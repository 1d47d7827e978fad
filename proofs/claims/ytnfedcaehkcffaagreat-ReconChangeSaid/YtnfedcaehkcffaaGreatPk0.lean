/- Walks and plain facts that the laws of this seat share, part 0: contracts of functions, each said at its theorem. -/
import Derived.WalkKit
set_option linter.all false
section
/- A small library for walks: parts of memory as ghost values, what a call turns of them, slices that read as lists, slices that are owned. No program is named here. -/
namespace Go.Sl
open Go Go.RowKit

/-- A part of memory: some blocks, each with what it holds. -/
abbrev Hp := Nat → Option Obj

def Hp.none : Hp := fun _ => Option.none
def Hp.one (b : Nat) (o : Obj) : Hp := fun k => if k = b then some o else Option.none
def Hp.del (h : Hp) (b : Nat) : Hp := fun k => if k = b then Option.none else h k
def Hp.or (h k : Hp) : Hp := fun b => (h b).or (k b)
def Hp.put (h : Hp) (b : Nat) (o : Obj) : Hp := fun k => if k = b then some o else h k
def Hp.le (h k : Hp) : Prop := ∀ b o, h b = some o → k b = some o
def Hp.apart (h k : Hp) : Prop := ∀ b, h b ≠ Option.none → k b = Option.none
def Hp.sub (h : Hp) (w : World) : Prop := ∀ b o, h b = some o → w.heap[b]? = some o
/-- All of a world's memory. -/
def Hp.all (w : World) : Hp := fun b => w.heap[b]?

theorem Hp.le_refl (h : Hp) : h.le h := fun _ _ e => e
theorem Hp.le.trans {a b c : Hp} (h : a.le b) (k : b.le c) : a.le c := fun x o e => k x o (h x o e)
theorem Hp.none_le (h : Hp) : Hp.none.le h := fun _ _ e => by simp [Hp.none] at e
theorem Hp.none_sub (w : World) : Hp.none.sub w := fun _ _ e => by simp [Hp.none] at e
theorem Hp.all_sub (w : World) : (Hp.all w).sub w := fun _ _ e => e
theorem Hp.sub.le {h k : Hp} {w : World} (s : k.sub w) (l : h.le k) : h.sub w := fun b o e => s b o (l b o e)
theorem Hp.sub.le_all {h : Hp} {w : World} (s : h.sub w) : h.le (Hp.all w) := s
theorem Hp.sub.lt {h : Hp} {w : World} (s : h.sub w) {b : Nat} (e : h b ≠ Option.none) : b < w.heap.size := by
  cases hb : h b with
  | none => exact absurd hb e
  | some o => exact (Array.getElem?_eq_some_iff.1 (s b o hb)).1
theorem Hp.del_le (h : Hp) (b : Nat) : (h.del b).le h := fun k o e => by
  simp only [Hp.del] at e; split at e <;> simp_all
theorem Hp.le_or_left (h k : Hp) : h.le (h.or k) := fun b o e => by simp [Hp.or, e]
theorem Hp.le_or_right {h k : Hp} (a : h.apart k) : k.le (h.or k) := fun b o e => by
  have : h b = Option.none := by
    cases hb : h b with
    | none => rfl
    | some x => have := a b (by simp [hb]); simp [this] at e
  simp [Hp.or, this, e]
theorem Hp.sub.or {h k : Hp} {w : World} (s : h.sub w) (t : k.sub w) : (h.or k).sub w := fun b o e => by
  simp only [Hp.or] at e
  cases hb : h b with
  | none => rw [hb] at e; exact t b o (by simpa using e)
  | some x => rw [hb] at e; exact s b o (by simpa [hb] using e)
theorem Hp.sub.cell {h : Hp} {w : World} (s : h.sub w) {b i : Nat} {cur : Array Value} {E : TypeId} {fr : Nat × Nat} (e : h b = some (.cells cur E fr)) {v : Value}
    (hv : cur[i]? = some v) : w.cell? ⟨b, i, .none⟩ = some v := by
  rw [cell_of_row w b i cur E fr (s b _ e)]; exact hv
theorem Hp.sub.of_below {h : Hp} {w w' : World} (s : h.sub w) (b : Below w.heap.size w w') : h.sub w' := fun k o e => by
  rw [b.block k (s.lt (by simp [e]))]; exact s k o e

/-- What a call turns: of the part h of memory it makes the part h'; what lay outside h stands. -/
structure Upd (h h' : Hp) (w w' : World) : Prop where
  os : w'.os = w.os
  tape : w'.tape = w.tape
  output : w'.output = w.output
  size : w.heap.size ≤ w'.heap.size
  keep : ∀ b, b < w.heap.size → h b = .none → w'.heap[b]? = w.heap[b]?
  sub : h'.sub w'
  dom : ∀ b, h' b ≠ .none → h b ≠ .none ∨ w.heap.size ≤ b

theorem Upd.of_below {w w' : World} (b : Below w.heap.size w w') : Upd Hp.none Hp.none w w' :=
  ⟨b.os, b.tape, b.output, b.size, fun k hk _ => b.block k hk, Hp.none_sub _, fun _ h => absurd rfl h⟩
/-- Nothing of the part turns. -/
theorem Upd.stay {h : Hp} {w w' : World} (s : h.sub w) (b : Below w.heap.size w w') : Upd h h w w' :=
  ⟨b.os, b.tape, b.output, b.size, fun q hq _ => b.block q hq, s.of_below b, fun _ hq => .inl hq⟩
theorem Upd.below {h' : Hp} {w w' : World} (u : Upd Hp.none h' w w') : Below w.heap.size w w' :=
  ⟨u.os, u.tape, u.output, u.size, fun k hk => u.keep k hk rfl⟩
theorem Upd.keeps {h h' k : Hp} {w w' : World} (u : Upd h h' w w') (a : h.apart k) (s : k.sub w) : k.sub w' := fun b o e => by
  have hb : h b = .none := by
    cases hb : h b with
    | none => rfl
    | some x => have := a b (by simp [hb]); simp [this] at e
  rw [u.keep b (s.lt (by simp [e])) hb]; exact s b o e
theorem Upd.apart {h h' k : Hp} {w w' : World} (u : Upd h h' w w') (a : h.apart k) (s : k.sub w) : h'.apart k := fun b e => by
  cases hk : k b with
  | none => rfl
  | some o =>
    rcases u.dom b e with h1 | h1
    · rw [a b h1] at hk; simp at hk
    · have := s.lt (b := b) (by simp [hk]); omega
theorem Hp.apart.symm {h k : Hp} (a : h.apart k) : k.apart h := fun b e => by
  cases hb : h b with
  | none => rfl
  | some o => exact absurd (a b (by simp [hb])) e
/-- before: things of the function's own (new blocks) were made. -/
theorem Upd.before {h h' : Hp} {w w1 w' : World} (b : Below w.heap.size w w1) (u : Upd h h' w1 w') : Upd h h' w w' :=
  ⟨u.os.trans b.os, u.tape.trans b.tape, u.output.trans b.output, Nat.le_trans b.size u.size,
    fun k hk hn => (u.keep k (Nat.lt_of_lt_of_le hk b.size) hn).trans (b.block k hk), u.sub,
    fun k hk => (u.dom k hk).imp id (Nat.le_trans b.size)⟩
theorem Upd.after {h h' : Hp} {w w1 w' : World} (u : Upd h h' w w1) (b : Below w1.heap.size w1 w') : Upd h h' w w' :=
  ⟨b.os.trans u.os, b.tape.trans u.tape, b.output.trans u.output, Nat.le_trans u.size b.size,
    fun k hk hn => (b.block k (Nat.lt_of_lt_of_le hk u.size)).trans (u.keep k hk hn), u.sub.of_below b, u.dom⟩
theorem Upd.trans {h h1 h2 : Hp} {w w1 w2 : World} (u : Upd h h1 w w1) (v : Upd h1 h2 w1 w2) : Upd h h2 w w2 :=
  ⟨v.os.trans u.os, v.tape.trans u.tape, v.output.trans u.output, Nat.le_trans u.size v.size,
    fun k hk hn => by
      have h1n : h1 k = .none := by
        cases hh : h1 k with
        | none => rfl
        | some o => rcases u.dom k (by simp [hh]) with e | e
                    · exact absurd hn e
                    · omega
      exact (v.keep k (Nat.lt_of_lt_of_le hk u.size) h1n).trans (u.keep k hk hn),
    v.sub, fun k hk => by
      rcases v.dom k hk with e | e
      · exact u.dom k e
      · exact .inr (Nat.le_trans u.size e)⟩
theorem Upd.weaken {h h' k' : Hp} {w w' : World} (u : Upd h h' w w') (l : k'.le h') : Upd h k' w w' :=
  ⟨u.os, u.tape, u.output, u.size, u.keep, u.sub.le l, fun b e => u.dom b (by
    cases hk : k' b with
    | none => exact absurd hk e
    | some o => simp [l b o hk])⟩
/-- more of memory named than is turned. -/
theorem Upd.widen {h h' k : Hp} {w w' : World} (u : Upd h h' w w') (a : h.apart k) (s : k.sub w) : Upd (h.or k) (h'.or k) w w' :=
  ⟨u.os, u.tape, u.output, u.size, fun b hb e => u.keep b hb (by simp [Hp.or] at e; exact e.1), u.sub.or (u.keeps a s), fun b e => by
    by_cases hb : h' b = .none
    · left; simp only [Hp.or, hb, Option.none_or] at e
      simp only [Hp.or]; cases h b <;> simp_all
    · rcases u.dom b hb with h1 | h1
      · left; simp only [Hp.or]; cases hh : h b <;> simp_all
      · exact .inr h1⟩

theorem Upd.new_none {h' : Hp} {w w' : World} (u : Upd Hp.none h' w w') {b : Nat} (hb : b < w.heap.size) : h' b = .none := by
  cases hh : h' b with
  | none => rfl
  | some o =>
    rcases u.dom b (by simp [hh]) with e | e
    · exact absurd rfl e
    · omega
theorem Upd.cell {h h' : Hp} {w w' : World} (u : Upd h h' w w') {p : Addr} {v : Value} (hp : w.cell? p = some v) (hn : h p.block = .none) : w'.cell? p = some v :=
  (World.cell?_of_block (w := w) (u.keep p.block (World.block_lt_of_cell? w p hp) hn)).trans hp

/-- The parts of memory that a body holds apart from each other. -/
def Own (w : World) : List Hp → Prop
  | [] => True
  | h :: l => h.sub w ∧ (∀ k ∈ l, h.apart k) ∧ Own w l

theorem Own.get {w : World} : ∀ {l : List Hp}, Own w l → ∀ (i : Nat) (h : Hp), l[i]? = some h → h.sub w
  | [], _, i, h, e => by simp at e
  | _ :: _, o, 0, h, e => by simp at e; subst e; exact o.1
  | _ :: _, o, i + 1, h, e => Own.get o.2.2 i h (by simpa using e)
theorem Own.mem {w : World} : ∀ {l : List Hp}, Own w l → ∀ h ∈ l, Hp.sub h w
  | k :: l, o, h, e => by
    rcases List.mem_cons.1 e with rfl | e
    · exact o.1
    · exact o.2.2.mem h e
theorem Own.below {w w' : World} (b : Below w.heap.size w w') : ∀ {l : List Hp}, Own w l → Own w' l
  | [], _ => trivial
  | _ :: _, o => ⟨o.1.of_below b, o.2.1, o.2.2.below b⟩
theorem Own.upd {w w' : World} {h h' : Hp} (u : Upd h h' w w') : ∀ {l : List Hp} (i : Nat), Own w l → l[i]? = some h → Own w' (l.set i h')
  | [], i, _, e => by simp at e
  | k :: l, 0, o, e => by
    simp at e; subst e
    refine ⟨u.sub, fun q hq => u.apart (o.2.1 q hq) (o.2.2.mem q hq), ?_⟩
    have key : ∀ l : List Hp, (∀ q ∈ l, k.apart q) → Own w l → Own w' l := by
      intro l
      induction l with
      | nil => exact fun _ _ => trivial
      | cons q l ih => exact fun a o => ⟨u.keeps (a q (by simp)) o.1, o.2.1, ih (fun x hx => a x (by simp [hx])) o.2.2⟩
    exact key l o.2.1 o.2.2
  | k :: l, i + 1, o, e => by
    have hm : h ∈ l := by
      have : l[i]? = some h := by simpa using e
      exact List.mem_of_getElem? this
    refine ⟨u.keeps (o.2.1 h hm).symm o.1, ?_, o.2.2.upd u i (by simpa using e)⟩
    intro q hq
    rcases List.mem_or_eq_of_mem_set hq with hq | rfl
    · exact o.2.1 q hq
    · exact (u.apart (o.2.1 h hm).symm o.1).symm
/-- something new. -/
theorem Own.fresh {w w' : World} {h' : Hp} (u : Upd Hp.none h' w w') {l : List Hp} (o : Own w l) : Own w' (h' :: l) :=
  ⟨u.sub, fun k hk => u.apart (fun _ e => absurd rfl e) (o.mem k hk), o.below u.below⟩
theorem Own.drop {w : World} {h : Hp} {l : List Hp} (o : Own w (h :: l)) : Own w l := o.2.2
theorem Own.head {w : World} {h : Hp} {l : List Hp} (o : Own w (h :: l)) : h.sub w := o.1
theorem Own.erase {w : World} : ∀ {l : List Hp} (i : Nat), Own w l → Own w (l.eraseIdx i)
  | [], _, o => by simpa using o
  | _ :: _, 0, o => o.2.2
  | h :: l, i + 1, o => ⟨o.1, fun k hk => o.2.1 k (List.mem_of_mem_eraseIdx hk), o.2.2.erase i⟩
/-- the two first, as one part. -/
theorem Own.join {w : World} {h k : Hp} {l : List Hp} (o : Own w (h :: k :: l)) : Own w (h.or k :: l) :=
  ⟨o.1.or o.2.2.1, fun q hq b e => by
    by_cases hb : h b = .none
    · exact o.2.2.2.1 q hq b (by simp only [Hp.or, hb, Option.none_or] at e; exact e)
    · exact o.2.1 q (by simp [hq]) b hb, o.2.2.2.2⟩
theorem Own.apart {w : World} {h : Hp} {l : List Hp} (o : Own w (h :: l)) {k : Hp} (hk : k ∈ l) : h.apart k := o.2.1 k hk
theorem Own.swap {w : World} {h k : Hp} {l : List Hp} (o : Own w (h :: k :: l)) : Own w (k :: h :: l) :=
  ⟨o.2.2.1, fun q hq => by
    rcases List.mem_cons.1 hq with rfl | hq
    · exact (o.2.1 k (by simp)).symm
    · exact o.2.2.2.1 q hq, o.1, fun q hq => o.2.1 q (by simp [hq]), o.2.2.2.2⟩

end Go.Sl
end
section
/- Slices for walks: kinds of elements, slices that read as lists in a part of memory, slices that are owned there, append onto an owned slice. No program is named here. -/
namespace Go.Sl
open Go Go.RowKit

/-- A kind of element: how many cells it takes, and what these are. -/
structure Kd (α : Type) where
  size : Nat
  K : Hp → α → List Value → Prop
  pos : 0 < size
  len : ∀ {h x cs}, K h x cs → cs.length = size
  one : ∀ {h x cs}, K h x cs → ∀ u ∈ cs, u.oneCell' = true
  mono : ∀ {h h' x cs}, K h x cs → Hp.le h h' → K h' x cs

/-- A kind whose cells say all. -/
def Kd.flat {α : Type} (size : Nat) (cells : α → List Value) (pos : 0 < size) (hl : ∀ x, (cells x).length = size) (h1 : ∀ x, ∀ u ∈ cells x, u.oneCell' = true) : Kd α :=
  ⟨size, fun _ x cs => cs = cells x, pos, fun e => by subst e; exact hl _, fun e => by subst e; exact h1 _, fun e _ => e⟩
def Kd.Flat {α : Type} (k : Kd α) : Prop := ∀ {h h' x cs}, k.K h x cs → k.K h' x cs
theorem Kd.flat_flat {α : Type} {size : Nat} {cells : α → List Value} {pos : 0 < size} {hl : ∀ x, (cells x).length = size} {h1 : ∀ x, ∀ u ∈ cells x, u.oneCell' = true} : (Kd.flat size cells pos hl h1).Flat := fun e => e

/-- The slice (A, length of xs, cap) reads, in the part h of memory, as xs. -/
structure Sl {α : Type} (k : Kd α) (h : Hp) (A : Option Addr) (cap : Nat) (xs : List α) : Prop where
  le : xs.length ≤ cap
  max : cap ≤ maxLen
  nil : A = none → cap = 0
  row : ∀ (i : Nat) x, xs[i]? = some x → ∃ b off cur E fr cs, A = some ⟨b, off, none⟩ ∧ h b = some (.cells cur E fr) ∧ k.K h x cs ∧ ∀ (j : Nat) u, cs[j]? = some u → cur[off + i * k.size + j]? = some u

/-- The same, and it may be written: its block is wholly h's, and what its elements hold beside lies elsewhere. -/
structure Ow {α : Type} (k : Kd α) (h : Hp) (A : Option Addr) (cap : Nat) (xs : List α) : Prop where
  le : xs.length ≤ cap
  max : cap ≤ maxLen
  nil : A = none → cap = 0
  row : ∀ ad, A = some ad → 0 < cap → ∃ b off cur E, ad = ⟨b, off, none⟩ ∧ h b = some (.cells cur E (0, 0)) ∧ off + cap * k.size ≤ cur.size ∧
    ∀ (i : Nat) x, xs[i]? = some x → ∃ cs, k.K (h.del b) x cs ∧ ∀ (j : Nat) u, cs[j]? = some u → cur[off + i * k.size + j]? = some u

section
variable {α : Type} {k : Kd α} {h : Hp} {A : Option Addr} {cap : Nat} {xs : List α} {w : World}

theorem Sl.small (s : Sl k h A cap xs) : xs.length ≤ 9223372036854775807 := by
  have h1 := s.le
  have h2 := s.max
  unfold maxLen at h2
  omega
theorem Ow.small (s : Ow k h A cap xs) : xs.length ≤ 9223372036854775807 := by
  have h1 := s.le
  have h2 := s.max
  unfold maxLen at h2
  omega
theorem Ow.some_of_lt (s : Ow k h A cap xs) {i : Nat} (hi : i < xs.length) : ∃ ad, A = some ad := by
  cases hA : A with
  | none => have h1 := s.nil hA; have h2 := s.le; omega
  | some ad => exact ⟨ad, rfl⟩
theorem Ow.sl (s : Ow k h A cap xs) : Sl k h A cap xs := by
  refine ⟨s.le, s.max, s.nil, fun i x hx => ?_⟩
  have hi : i < xs.length := by
    rcases Nat.lt_or_ge i xs.length with h | h
    · exact h
    · simp [List.getElem?_eq_none h] at hx
  obtain ⟨ad, rfl⟩ := s.some_of_lt hi
  obtain ⟨b, off, cur, E, rfl, hb, _, hr⟩ := s.row ad rfl (by have := s.le; omega)
  obtain ⟨cs, hK, hc⟩ := hr i x hx
  exact ⟨b, off, cur, E, (0, 0), cs, rfl, hb, k.mono hK (Hp.del_le _ _), hc⟩
theorem Sl.mono {h' : Hp} (s : Sl k h A cap xs) (l : h.le h') : Sl k h' A cap xs :=
  ⟨s.le, s.max, s.nil, fun i x hx => by
    obtain ⟨b, off, cur, E, fr, cs, e, hb, hK, hc⟩ := s.row i x hx
    exact ⟨b, off, cur, E, fr, cs, e, l _ _ hb, k.mono hK l, hc⟩⟩
theorem Sl.none (k : Kd α) (h : Hp) : Sl k h Option.none 0 [] := ⟨by simp, by simp, fun _ => rfl, fun i x hx => by simp at hx⟩
theorem Ow.none (k : Kd α) (h : Hp) : Ow k h Option.none 0 [] := ⟨by simp, by simp, fun _ => rfl, fun ad e => by cases e⟩
theorem Ow.zero (k : Kd α) (h : Hp) (A : Option Addr) : Ow k h A 0 [] := ⟨by simp, by simp, fun _ => rfl, fun _ _ e => absurd e (by decide)⟩
theorem Hp.del_mono {h h' : Hp} (l : h.le h') (b : Nat) : (h.del b).le (h'.del b) := fun q o e => by
  simp only [Hp.del] at e ⊢
  split at e
  · cases e
  · rename_i hq; simp [hq, l q o e]
theorem Ow.mono {h' : Hp} (s : Ow k h A cap xs) (l : h.le h') : Ow k h' A cap xs :=
  ⟨s.le, s.max, s.nil, fun ad e hc => by
    obtain ⟨b, off, cur, E, e1, hb, hz, hr⟩ := s.row ad e hc
    exact ⟨b, off, cur, E, e1, l _ _ hb, hz, fun i x hx => by obtain ⟨cs, hK, hcs⟩ := hr i x hx; exact ⟨cs, k.mono hK (Hp.del_mono l b), hcs⟩⟩⟩
theorem Ow.take (s : Ow k h A cap xs) (n : Nat) : Ow k h A cap (xs.take n) :=
  ⟨by have := s.le; rw [List.length_take]; omega, s.max, s.nil, fun ad e hc => by
    obtain ⟨b, off, cur, E, e1, hb, hz, hr⟩ := s.row ad e hc
    refine ⟨b, off, cur, E, e1, hb, hz, fun i x hx => hr i x ?_⟩
    rw [List.getElem?_take] at hx
    split at hx
    · exact hx
    · cases hx⟩
/-- Elements read in another way. -/
theorem Sl.as {β : Type} {k' : Kd β} {ys : List β} (s : Sl k h A cap xs) (hz : k'.size = k.size) (hl : ys.length = xs.length)
    (H : ∀ (i : Nat) y, ys[i]? = some y → ∃ x, xs[i]? = some x ∧ ∀ cs, k.K h x cs → k'.K h y cs) : Sl k' h A cap ys :=
  ⟨by rw [hl]; exact s.le, s.max, s.nil, fun i y hy => by
    obtain ⟨x, hx, hk⟩ := H i y hy
    obtain ⟨b, off, cur, E, fr, cs, e, hb, hK, hc⟩ := s.row i x hx
    exact ⟨b, off, cur, E, fr, cs, e, hb, hk cs hK, by rw [hz]; exact hc⟩⟩
/-- The cells of an element, read in the world. -/
theorem Sl.at (s : Sl k h A cap xs) (hs : h.sub w) {i : Nat} {x : α} (hx : xs[i]? = some x) :
    ∃ b off cs, A = some ⟨b, off, .none⟩ ∧ k.K h x cs ∧ b < w.heap.size ∧ ∀ (j : Nat) u, cs[j]? = some u → w.cell? ⟨b, off + i * k.size + j, .none⟩ = some u := by
  obtain ⟨b, off, cur, E, fr, cs, e, hb, hK, hc⟩ := s.row i x hx
  exact ⟨b, off, cs, e, hK, hs.lt (by simp [hb]), fun j u hu => hs.cell hb (hc j u hu)⟩
theorem Sl.take (s : Sl k h A cap xs) (n : Nat) : Sl k h A cap (xs.take n) :=
  ⟨by have := s.le; rw [List.length_take]; omega, s.max, s.nil, fun i x hx => by
    rw [List.getElem?_take] at hx
    split at hx
    · exact s.row i x hx
    · cases hx⟩
theorem Sl.drop (s : Sl k h A cap xs) {b off : Nat} (hA : A = some ⟨b, off, .none⟩) (n : Nat) : Sl k h (some ⟨b, off + n * k.size, .none⟩) (cap - n) (xs.drop n) :=
  ⟨by have := s.le; simp; omega, by have := s.max; omega, (by intro e; cases e), fun i x hx => by
    rw [List.getElem?_drop] at hx
    obtain ⟨b', off', cur, E, fr, cs, e, hb, hK, hc⟩ := s.row _ x hx
    obtain ⟨rfl, rfl⟩ : b = b' ∧ off = off' := by rw [hA] at e; cases e; exact ⟨rfl, rfl⟩
    refine ⟨b, _, cur, E, fr, cs, rfl, hb, hK, fun j u hu => ?_⟩
    have := hc j u hu
    rw [Nat.add_mul] at this
    rw [← this]
    congr 1
    omega⟩
end

/-- A source for append: the slice (B, length of ys, ..) reads as ys in the world, what its elements hold beside lies in hx. -/
structure Src {α : Type} (k : Kd α) (hx : Hp) (w : World) (B : Option Addr) (ys : List α) : Prop where
  row : ∀ (i : Nat) y, ys[i]? = some y → ∃ b off cs, B = some ⟨b, off, none⟩ ∧ k.K hx y cs ∧ ∀ (j : Nat) u, cs[j]? = some u → w.cell? ⟨b, off + i * k.size + j, none⟩ = some u

theorem Sl.src {α : Type} {k : Kd α} {h : Hp} {A : Option Addr} {cap : Nat} {xs : List α} {w : World} (s : Sl k h A cap xs) (hs : h.sub w) : Src k h w A xs :=
  ⟨fun i x hx => by obtain ⟨b, off, cs, e, hK, _, hc⟩ := s.at hs hx; exact ⟨b, off, cs, e, hK, hc⟩⟩
theorem Src.flat {α : Type} {k : Kd α} {h : Hp} {A : Option Addr} {xs : List α} {w : World} (s : Src k h w A xs) (f : k.Flat) (h' : Hp) : Src k h' w A xs :=
  ⟨fun i x hx => by obtain ⟨b, off, cs, e, hK, hc⟩ := s.row i x hx; exact ⟨b, off, cs, e, f hK, hc⟩⟩
/-- One element in a block of its own. -/
theorem Src.one {α : Type} {k : Kd α} {hx : Hp} {w : World} {b off : Nat} {y : α} {cs : List Value} (hK : k.K hx y cs) (hc : ∀ (j : Nat) u, cs[j]? = some u → w.cell? ⟨b, off + j, none⟩ = some u) :
    Src k hx w (some ⟨b, off, none⟩) [y] :=
  ⟨fun i x hx => by
    cases i with
    | zero => simp at hx; subst hx; exact ⟨b, off, cs, rfl, hK, by simpa using hc⟩
    | succ i => simp at hx⟩

theorem heap_new_at {w : World} {o : Obj} {b : Nat} (hb : b = w.heap.size) : (w.alloc o).heap[b]? = some o := by subst hb; exact heap_alloc_new w o
theorem heap_old_at {w : World} {o : Obj} {b : Nat} (hb : b < w.heap.size) : (w.alloc o).heap[b]? = w.heap[b]? := heap_alloc_old w o hb
/-- One element in a block that is known whole. -/
theorem Src.new {α : Type} {k : Kd α} {hx : Hp} {w : World} {y : α} {cs : List Value} {t : TypeId} {fr : Nat × Nat} {b : Nat} (hb : w.heap[b]? = some (.cells cs.toArray t fr)) (hK : k.K hx y cs) :
    Src k hx w (some ⟨b, 0, none⟩) [y] :=
  Src.one hK fun j u hu => by rw [Nat.zero_add, cell_of_row w b j _ t fr hb]; simpa using hu

theorem flatMap_get {α : Type} {size : Nat} {cells : α → List Value} (hl : ∀ x, (cells x).length = size) : ∀ (xs : List α) (i : Nat) (x : α), xs[i]? = some x → ∀ (j : Nat) u, (cells x)[j]? = some u → (xs.flatMap cells)[i * size + j]? = some u
  | [], i, x, hx => by simp at hx
  | y :: xs, 0, x, hx => fun j u hu => by
    simp at hx; subst hx
    rw [List.flatMap_cons, Nat.zero_mul, Nat.zero_add, List.getElem?_append_left (List.getElem?_eq_some_iff.1 hu).1]; exact hu
  | y :: xs, i + 1, x, hx => fun j u hu => by
    have := flatMap_get hl xs i x (by simpa using hx) j u hu
    rw [List.flatMap_cons, Nat.add_mul, Nat.one_mul, List.getElem?_append_right (by rw [hl]; omega), hl, ← this]
    congr 1; omega
/-- A literal, read. -/
theorem Sl.lit {α : Type} {size : Nat} {cells : α → List Value} {pos : 0 < size} {hl : ∀ x, (cells x).length = size} {h1 : ∀ x, ∀ u ∈ cells x, u.oneCell' = true} {h : Hp} {b : Nat} {t : TypeId} {fr : Nat × Nat} {xs : List α}
    (hb : h b = some (.cells (xs.flatMap cells).toArray t fr)) (hm : xs.length ≤ maxLen) : Sl (Kd.flat size cells pos hl h1) h (some ⟨b, 0, .none⟩) xs.length xs :=
  ⟨Nat.le_refl _, hm, (fun e => (nomatch e)), fun i x hx => ⟨b, 0, _, t, fr, cells x, rfl, hb, rfl, fun j u hu => by
    rw [Nat.zero_add, List.getElem?_toArray]; exact flatMap_get hl xs i x hx j u hu⟩⟩
theorem Hp.one_self (b : Nat) (o : Obj) : Hp.one b o b = some o := if_pos rfl
theorem Hp.one_sub {b : Nat} {o : Obj} {w : World} (h : w.heap[b]? = some o) : (Hp.one b o).sub w := fun k q e => by
  simp only [Hp.one] at e
  split at e
  · rename_i hk; cases e; rw [hk]; exact h
  · cases e

theorem add_mk (b off n : Nat) : (⟨b, off, none⟩ : Addr).add n = ⟨b, off + n, none⟩ := by
  unfold Addr.add; split
  · subst_vars; rfl
  · rfl

/-- All the cells of a source, one behind the other. -/
theorem Src.all {α : Type} {k : Kd α} {hx : Hp} {w : World} {b off : Nat} {ys : List α} (s : Src k hx w (some ⟨b, off, none⟩) ys) :
    ∃ news : List Value, news.length = ys.length * k.size ∧ (∀ (j : Nat) u, news[j]? = some u → w.cell? ((⟨b, off, none⟩ : Addr).add j) = some u) ∧ (∀ u ∈ news, u.oneCell' = true) ∧
      ∀ (i : Nat) y, ys[i]? = some y → ∃ cs, k.K hx y cs ∧ ∀ (j : Nat) u, cs[j]? = some u → news[i * k.size + j]? = some u := by
  have key : ∀ n, n < ys.length * k.size → ∃ y cs u, ys[n / k.size]? = some y ∧ k.K hx y cs ∧ cs[n % k.size]? = some u ∧ w.cell? ⟨b, off + n, none⟩ = some u := by
    intro n hn
    have hq : n / k.size < ys.length := (Nat.div_lt_iff_lt_mul k.pos).2 hn
    have hm : n % k.size < k.size := Nat.mod_lt _ k.pos
    obtain ⟨b', off', cs, e, hK, hc⟩ := s.row (n / k.size) ys[n / k.size] (by simp [hq])
    cases e
    have hl := k.len hK
    have hu := hc (n % k.size) cs[n % k.size] (by simp [hl, hm])
    refine ⟨_, cs, cs[n % k.size], by simp [hq], hK, by simp [hl, hm], ?_⟩
    have e2 : off + n / k.size * k.size + n % k.size = off + n := by
      have := Nat.div_add_mod n k.size
      rw [Nat.mul_comm] at this
      omega
    rw [e2] at hu
    exact hu
  refine ⟨(List.range (ys.length * k.size)).map fun j => (w.cell? ⟨b, off + j, none⟩).getD undef, by simp, ?_, ?_, ?_⟩
  · intro j u hj
    rw [List.getElem?_map] at hj
    by_cases hl : j < ys.length * k.size
    · rw [List.getElem?_range hl] at hj
      obtain ⟨_, _, u', _, _, _, h3⟩ := key j hl
      simp only [Option.map_some, h3, Option.getD_some, Option.some.injEq] at hj
      subst hj
      rw [add_mk]; exact h3
    · rw [List.getElem?_eq_none (by simp; omega)] at hj
      cases hj
  · intro u hu
    obtain ⟨j, hj, rfl⟩ := List.mem_map.1 hu
    have hl := List.mem_range.1 hj
    obtain ⟨y, cs, u', _, h1, h2, h3⟩ := key j hl
    simp only [h3, Option.getD_some]
    exact k.one h1 _ (List.mem_of_getElem? h2)
  · intro i y hy
    have hi : i < ys.length := by
      rcases Nat.lt_or_ge i ys.length with h | h
      · exact h
      · simp [List.getElem?_eq_none h] at hy
    obtain ⟨b', off', cs, e, hK, hc⟩ := s.row i y hy
    cases e
    refine ⟨cs, hK, fun j u hu => ?_⟩
    have hj : j < k.size := by
      rw [← k.len hK]
      exact (List.getElem?_eq_some_iff.1 hu).1
    have hlt : i * k.size + j < ys.length * k.size := by
      have h1 : (i + 1) * k.size ≤ ys.length * k.size := Nat.mul_le_mul_right _ hi
      rw [Nat.add_mul] at h1
      omega
    rw [List.getElem?_map, List.getElem?_range hlt]
    have := hc j u hu
    rw [Nat.add_assoc] at this
    simp [this]

theorem setRow_below {w : World} {g : Nat} {cs : Array Value} {b : Nat} (h : b ≠ g) : (w.setRow g cs).heap[b]? = w.heap[b]? := setRow_other w g b cs h

section
variable {P : Program} {α : Type} {k : Kd α} {h hx : Hp} {A B : Option Addr} {cap : Nat} {xs ys : List α}

/-- append onto an owned slice. -/
theorem run_append {w : World} {t ty e : TypeId} {i : TypeInfo} {z : Value} (ht : P.underlying t = some (.slice e)) (hi : P.info? e = some i) (hz : i.zero = some z)
    (hsize : i.size = k.size) (hzs : z.cells.size = k.size) (o : Ow k h A cap xs) (s : h.sub w) (src : Src k hx w B ys) (sx : hx.sub w) (ap : h.apart hx) (c : Nat)
    (hm : xs.length + ys.length ≤ maxLen) (hby : (xs.length + ys.length) * i.bytes ≤ 140737488355328) :
    ∃ A' cap' w' h', (Builtin.append_ #[t, t] ty #[.slice A xs.length cap, .slice B ys.length c]).run P w = .ok (.slice A' (xs.length + ys.length) cap') w' ∧
      Ow k h' A' cap' (xs ++ ys) ∧ Upd (h.or hx) h' w w' := by
  have hsmall : xs.length + ys.length ≤ 9223372036854775807 := by unfold maxLen at hm; omega
  cases hB : B with
  | none =>
    have hy : ys = [] := by
      cases ys with
      | nil => rfl
      | cons y ys => obtain ⟨_, _, _, e, _⟩ := src.row 0 y rfl; rw [hB] at e; cases e
    subst hy
    have hle := o.le
    refine ⟨A, cap, w, h, ?_, by simpa using o, ⟨rfl, rfl, rfl, Nat.le_refl _, fun _ _ _ => rfl, s, fun b hb => .inl ?_⟩⟩
    · have hn : xs.length ≤ cap := hle
      cases A with
      | none => simp [Builtin.append_, run_underlying ht, sizeOf, typeInfo, hi, Builtin.lenOf, Builtin.firstCells, hn]
      | some ad => simp [Builtin.append_, run_underlying ht, sizeOf, typeInfo, hi, Builtin.lenOf, Builtin.firstCells, hn, storeCells]
    · simp only [Hp.or]; cases hh : h b <;> simp_all
  | some ad =>
    by_cases hy0 : ys = []
    · subst hy0
      have hle := o.le
      refine ⟨A, cap, w, h, ?_, by simpa using o, ⟨rfl, rfl, rfl, Nat.le_refl _, fun _ _ _ => rfl, s, fun b hb => .inl ?_⟩⟩
      · have hn : xs.length ≤ cap := hle
        cases A with
        | none => simp [Builtin.append_, run_underlying ht, sizeOf, typeInfo, hi, Builtin.lenOf, Builtin.firstCells, hn, loadCells, loadCellsFrom]
        | some ad => simp [Builtin.append_, run_underlying ht, sizeOf, typeInfo, hi, Builtin.lenOf, Builtin.firstCells, hn, storeCells, loadCells, loadCellsFrom]
      · simp only [Hp.or]; cases hh : h b <;> simp_all
    · have hpos : 0 < ys.length := List.length_pos_iff.2 hy0
      obtain ⟨bb, boff, rfl⟩ : ∃ bb boff, ad = ⟨bb, boff, none⟩ := by
        obtain ⟨b, off, _, e, _⟩ := src.row 0 ys[0] (by simp [hpos])
        rw [hB] at e; cases e; exact ⟨_, _, rfl⟩
      subst hB
      obtain ⟨news, hnl, hnews, hn1, hnK⟩ := src.all
      -- what a new block has
      have grown : ∀ (cp : Nat) (hd : Hp) (olds : List Value) (old : Nat), xs.length + ys.length ≤ cp → cp ≤ maxLen → hd.le h →
          olds.length = xs.length * k.size → (∀ (i : Nat) x, xs[i]? = some x → ∃ cs, k.K hd x cs ∧ ∀ (j : Nat) u, cs[j]? = some u → olds[i * k.size + j]? = some u) →
          ∃ h', Ow k h' (some ⟨w.heap.size, 0, none⟩) cp (xs ++ ys) ∧
            Upd (h.or hx) h' w (w.drew.alloc (.cells (olds.toArray ++ news.toArray ++ Builtin.zeroCells z.cells (cp - (xs.length + ys.length))) e)) := by
        intro cp hd olds old hcp hcm hdl hol hoK
        refine ⟨(hd.or hx).put w.heap.size (.cells (olds.toArray ++ news.toArray ++ Builtin.zeroCells z.cells (cp - (xs.length + ys.length))) e), ⟨by simp; omega, hcm, (fun e => (nomatch e)), ?_⟩, ?_⟩
        · rintro ad ⟨⟩ _
          have hnone : ∀ q : Hp, q.sub w → q w.heap.size = .none := by
            intro q hq
            cases hh : q w.heap.size with
            | none => rfl
            | some o => have := hq.lt (b := w.heap.size) (by simp [hh]); omega
          have hle1 : hd.le (((hd.or hx).put w.heap.size (.cells (olds.toArray ++ news.toArray ++ Builtin.zeroCells z.cells (cp - (xs.length + ys.length))) e)).del w.heap.size) := by
            intro b o' e'
            have hb : b ≠ w.heap.size := fun hb => by rw [hb, hnone hd (s.le hdl)] at e'; cases e'
            simp [Hp.del, Hp.put, hb, Hp.or, e']
          have hle2 : hx.le (((hd.or hx).put w.heap.size (.cells (olds.toArray ++ news.toArray ++ Builtin.zeroCells z.cells (cp - (xs.length + ys.length))) e)).del w.heap.size) := by
            intro b o' e'
            have hb : b ≠ w.heap.size := fun hb => by rw [hb, hnone hx sx] at e'; cases e'
            have hdn : hd b = .none := by
              cases hh : hd b with
              | none => rfl
              | some q => have := ap b (by simp [hdl b q hh]); rw [this] at e'; cases e'
            simp [Hp.del, Hp.put, hb, Hp.or, e', hdn]
          refine ⟨w.heap.size, 0, _, e, rfl, if_pos rfl, ?_, ?_⟩
          · simp only [Array.size_append, List.size_toArray, size_zeroCells, hzs, hol, hnl, ← Nat.add_mul, Nat.zero_add]
            have : xs.length + ys.length + (cp - (xs.length + ys.length)) = cp := by omega
            rw [this]; exact Nat.le_refl _
          · intro i x hix
            simp only [Nat.zero_add, Array.getElem?_append, Array.size_append, List.size_toArray, List.getElem?_toArray]
            by_cases hlt : i < xs.length
            · rw [List.getElem?_append_left hlt] at hix
              obtain ⟨cs, hK, hc⟩ := hoK i x hix
              refine ⟨cs, k.mono hK hle1, fun j u hu => ?_⟩
              have h2 := hc j u hu
              have h3 := (List.getElem?_eq_some_iff.1 h2).1
              rw [if_pos (by omega), if_pos h3]; exact h2
            · rw [List.getElem?_append_right (by omega)] at hix
              obtain ⟨cs, hK, hc⟩ := hnK _ x hix
              refine ⟨cs, k.mono hK hle2, fun j u hu => ?_⟩
              have h2 := hc j u hu
              have h3 := (List.getElem?_eq_some_iff.1 h2).1
              have h4 : (i - xs.length) * k.size = i * k.size - xs.length * k.size := Nat.sub_mul _ _ _
              have h5 : xs.length * k.size ≤ i * k.size := Nat.mul_le_mul_right _ (by omega)
              rw [if_pos (by omega), if_neg (by omega)]
              rw [← h2]; congr 1; omega
        · refine ⟨rfl, rfl, rfl, by simp, fun b hb _ => heap_alloc_old w.drew _ hb, ?_, ?_⟩
          · intro b o' e'
            simp only [Hp.put] at e'
            split at e'
            · rename_i hb; cases e'; rw [hb]; exact heap_alloc_new w.drew _
            · have := ((s.le hdl).or sx) b o' e'
              rw [heap_alloc_old w.drew _ (Array.getElem?_eq_some_iff.1 this).1]; exact this
          · intro b hb
            simp only [Hp.put] at hb
            split at hb
            · right; omega
            · left
              simp only [Hp.or] at hb ⊢
              cases hd2 : hd b with
              | none => rw [hd2] at hb; cases h b <;> simp_all
              | some q => simp [hdl b q hd2]
      cases hA : A with
      | none =>
        have hc0 := o.nil hA
        have hle := o.le
        have hx0 : xs = [] := List.eq_nil_of_length_eq_zero (by omega)
        subst hx0
        subst hc0
        have hge := grownCap_ge w ys.length 0 e
        have hcm : grownCap w ys.length 0 e ≤ maxLen := grownCap_le_maxLen w _ 0 e (by simpa using hm)
        have hr := run_append_nil (P := P) w t ty e i z ht hi hz ⟨bb, boff, none⟩ ys.length c news (by rw [hnl, hsize]) hnews hpos (by simp at hsmall; omega) (by simp only [List.length_nil, Nat.zero_add] at hby; omega)
        obtain ⟨h', ho', hu'⟩ := grown (grownCap w ys.length 0 e) h [] 0 (by simpa using hge) hcm (Hp.le_refl h) (by simp) (by simp)
        refine ⟨_, _, _, h', ?_, ho', hu'⟩
        simpa using hr
      | some ad =>
        by_cases hc0 : cap = 0
        · have hle := o.le
          have hx0 : xs = [] := List.eq_nil_of_length_eq_zero (by omega)
          subst hx0
          subst hc0
          have hge := grownCap_ge w ys.length 0 e
          have hcm : grownCap w ys.length 0 e ≤ maxLen := grownCap_le_maxLen w _ 0 e (by simpa using hm)
          have hr := run_append_grow (P := P) w t ty e i z ht hi hz ad 0 0 [] (by simp) (by simp) ⟨bb, boff, none⟩ ys.length c news (by rw [hnl, hsize]) hnews (by omega) (by simp at hsmall; omega) (growslice_fits (by omega) (by simpa using hby))
          obtain ⟨h', ho', hu'⟩ := grown (grownCap w ys.length 0 e) h [] 0 (by simpa using hge) hcm (Hp.le_refl h) (by simp) (by simp)
          refine ⟨_, _, _, h', ?_, ho', hu'⟩
          simpa using hr
        obtain ⟨g, off, cur, E, rfl, hg, hsz, hrow⟩ := o.row ad hA (by omega)
        have hgw := s g _ hg
        by_cases hroom : xs.length + ys.length ≤ cap
        · have hfit : off + xs.length * k.size + news.length ≤ cur.size := by
            rw [hnl, Nat.add_assoc, ← Nat.add_mul]
            have := Nat.mul_le_mul_right k.size hroom
            omega
          have hf := run_firstCells_some (P := P) w k.size ys.length ⟨bb, boff, none⟩ ys.length c news hnl hnews
          have hst := run_storeCells_at P g (off + xs.length * k.size) E news 0 cur w hgw (by simpa using hfit) hn1
          simp only [Nat.add_zero] at hst
          refine ⟨some ⟨g, off, none⟩, cap, w.setRow g (cur.toList.take (off + xs.length * k.size) ++ news ++ cur.toList.drop (off + xs.length * k.size + news.length)).toArray, (h.or hx).put g (.cells (cur.toList.take (off + xs.length * k.size) ++ news ++ cur.toList.drop (off + xs.length * k.size + news.length)).toArray E), ?_, ⟨?_, o.max, (fun e => (nomatch e)), ?_⟩, ?_⟩
          · simp [Builtin.append_, run_underlying ht, sizeOf, typeInfo, hi, Builtin.lenOf, hroom, hsize, hf, add_mk, hst]
          · simp; omega
          · rintro ad ⟨⟩ _
            refine ⟨g, off, _, E, rfl, if_pos rfl, ?_, ?_⟩
            · simp only [List.size_toArray, List.length_append, List.length_take, List.length_drop, Array.length_toList]
              omega
            · intro i x hix
              have hle1 : (h.del g).le (((h.or hx).put g (.cells (cur.toList.take (off + xs.length * k.size) ++ news ++ cur.toList.drop (off + xs.length * k.size + news.length)).toArray E)).del g) := by
                intro b o' e'
                simp only [Hp.del] at e' ⊢
                split at e'
                · cases e'
                · rename_i hb; simp [hb, Hp.put, Hp.or, e']
              have hle2 : hx.le (((h.or hx).put g (.cells (cur.toList.take (off + xs.length * k.size) ++ news ++ cur.toList.drop (off + xs.length * k.size + news.length)).toArray E)).del g) := by
                intro b o' e'
                have hb : b ≠ g := fun hb => by rw [hb, ap g (by simp [hg])] at e'; cases e'
                have hn : h b = .none := by
                  cases hh : h b with
                  | none => rfl
                  | some q => have := ap b (by simp [hh]); rw [this] at e'; cases e'
                simp [Hp.del, hb, Hp.put, Hp.or, hn, e']
              have hcl : cur.toList.length = cur.size := by simp
              have htl : (cur.toList.take (off + xs.length * k.size)).length = off + xs.length * k.size := by
                rw [List.length_take]; omega
              by_cases hlt : i < xs.length
              · rw [List.getElem?_append_left hlt] at hix
                obtain ⟨cs, hK, hc⟩ := hrow i x hix
                refine ⟨cs, k.mono hK hle1, fun j u hu => ?_⟩
                have hj : j < k.size := by rw [← k.len hK]; exact (List.getElem?_eq_some_iff.1 hu).1
                have h1 : (i + 1) * k.size ≤ xs.length * k.size := Nat.mul_le_mul_right _ hlt
                rw [Nat.add_mul] at h1
                have h2 := hc j u hu
                simp only [List.getElem?_toArray]
                rw [List.append_assoc, List.getElem?_append_left (by omega), List.getElem?_take, if_pos (by omega)]
                simpa using h2
              · rw [List.getElem?_append_right (by omega)] at hix
                obtain ⟨cs, hK, hc⟩ := hnK _ x hix
                refine ⟨cs, k.mono hK hle2, fun j u hu => ?_⟩
                have h2 := hc j u hu
                have h3 := (List.getElem?_eq_some_iff.1 h2).1
                have h4 : (i - xs.length) * k.size = i * k.size - xs.length * k.size := Nat.sub_mul _ _ _
                have h5 : xs.length * k.size ≤ i * k.size := Nat.mul_le_mul_right _ (by omega)
                simp only [List.getElem?_toArray]
                rw [List.append_assoc, List.getElem?_append_right (by omega), List.getElem?_append_left (by omega)]
                rw [← h2]; congr 1; omega
          · refine ⟨rfl, rfl, rfl, by simp, fun b hb hn => setRow_other w g b _ (fun e => ?_), ?_, ?_⟩
            · rw [e] at hn; simp [Hp.or, hg] at hn
            · intro b o' e'
              simp only [Hp.put] at e'
              split at e'
              · rename_i hb; cases e'; rw [hb]; exact setRow_heap w g cur _ E _ hgw
              · rename_i hb
                rw [setRow_other w g b _ hb]
                exact (s.or sx) b o' e'
            · intro b hb
              simp only [Hp.put] at hb
              split at hb
              · rename_i hb2; left; rw [hb2]; simp [Hp.or, hg]
              · exact .inl hb
        · have hsrc0 : Src k (h.del g) w (some ⟨g, off, none⟩) xs := ⟨fun i x hix => by
            obtain ⟨cs, hK, hc⟩ := hrow i x hix
            exact ⟨g, off, cs, rfl, hK, fun j u hu => s.cell hg (hc j u hu)⟩⟩
          obtain ⟨olds, hol, holds, _, hoK⟩ := hsrc0.all
          have hge := grownCap_ge w (xs.length + ys.length) cap e
          have hcm : grownCap w (xs.length + ys.length) cap e ≤ maxLen := grownCap_le_maxLen w _ cap e hm
          have hr := run_append_grow (P := P) w t ty e i z ht hi hz ⟨g, off, none⟩ xs.length cap olds (by rw [hol, hsize]) holds ⟨bb, boff, none⟩ ys.length c news (by rw [hnl, hsize]) hnews (by omega) (by omega) (growslice_fits (by omega) hby)
          obtain ⟨h', ho', hu'⟩ := grown (grownCap w (xs.length + ys.length) cap e) (h.del g) olds cap hge hcm (Hp.del_le _ _) hol hoK
          exact ⟨_, _, _, h', hr, ho', hu'⟩

theorem Hp.or_none (h : Hp) : h.or Hp.none = h := by
  funext b; simp [Hp.or, Hp.none]

/-- append as an operation. -/
theorem wp_append {w : World} {op : Oper} {a : Act} {K : Act → World → Prop} {Q : Exit → Act → World → Prop} (sx xx : Operand) (t : TypeId)
    (ho : op.op = .call { callee := .builtin .append, args := #[sx, xx], argTypes := #[t, t] })
    (e : TypeId) (i : TypeInfo) (z : Value) (ht : P.underlying t = some (.slice e)) (hi : P.info? e = some i) (hz : i.zero = some z)
    (hsize : i.size = k.size) (hzs : z.cells.size = k.size) (bytes : Nat) (hbt : i.bytes = bytes) (n m c : Nat) (hn : xs.length = n) (hm' : ys.length = m)
    (hsv : a.eval sx = .slice A n cap) (hxv : a.eval xx = .slice B m c)
    (o : Ow k h A cap xs) (s : h.sub w) (src : Src k hx w B ys) (sx' : hx.sub w) (ap : h.apart hx)
    (hm : n + m ≤ maxLen) (hby : (n + m) * bytes ≤ 140737488355328)
    (H : ∀ A' cap' w' h', Ow k h' A' cap' (xs ++ ys) → Upd (h.or hx) h' w w' → K (a.put op.dst (.slice A' (n + m) cap')) w') : op.wp P a w K Q := by
  subst hn
  subst hm'
  subst hbt
  obtain ⟨A', cap', w', h', hr, h1, h2⟩ := run_append (P := P) (ty := op.type) ht hi hz hsize hzs o s src sx' ap c hm hby
  unfold Oper.wp execOp
  simp only [ho, resolve, invoke, builtin, Sem.run_bind, Sem.run_pure, Result.andThen_ok, List.map_toArray, List.map_cons, List.map_nil, hsv, hxv, hr]
  exact H A' cap' w' h' h1 h2

/-- append as a step of a walk. -/
theorem wpList_append {w : World} {ops : Array Oper} {rest : List Oper} {op : Oper} {a : Act} {Q : Exit → Act → World → Prop} (hgd : op.guard = none) (sx xx : Operand) (t : TypeId)
    (ho : op.op = .call { callee := .builtin .append, args := #[sx, xx], argTypes := #[t, t] })
    (e : TypeId) (i : TypeInfo) (z : Value) (ht : P.underlying t = some (.slice e)) (hi : P.info? e = some i) (hz : i.zero = some z)
    (hsize : i.size = k.size) (hzs : z.cells.size = k.size) (bytes : Nat) (hbt : i.bytes = bytes) (n m c : Nat) (hn : xs.length = n) (hm' : ys.length = m)
    (hsv : a.eval sx = .slice A n cap) (hxv : a.eval xx = .slice B m c)
    (o : Ow k h A cap xs) (s : h.sub w) (src : Src k hx w B ys) (sx' : hx.sub w) (ap : h.apart hx)
    (hm : n + m ≤ maxLen) (hby : (n + m) * bytes ≤ 140737488355328)
    (H : ∀ A' cap' w' h', Ow k h' A' cap' (xs ++ ys) → Upd (h.or hx) h' w w' → wpList P ops Q rest (a.put op.dst (.slice A' (n + m) cap')) w') : wpList P ops Q (op :: rest) a w :=
  wpList_plain hgd fun _ hK => wp_append sx xx t ho e i z ht hi hz hsize hzs bytes hbt n m c hn hm' hsv hxv o s src sx' ap hm hby fun A' cap' w' h' h1 h2 => hK _ _ (H A' cap' w' h' h1 h2)

/-- The same, behind a guard that holds. -/
theorem wpList_append_g {w : World} {ops : Array Oper} {rest : List Oper} {op : Oper} {a : Act} {Q : Exit → Act → World → Prop} (hgd : Region.wanted op (yielded ops a.tmps) = true) (sx xx : Operand) (t : TypeId)
    (ho : op.op = .call { callee := .builtin .append, args := #[sx, xx], argTypes := #[t, t] })
    (e : TypeId) (i : TypeInfo) (z : Value) (ht : P.underlying t = some (.slice e)) (hi : P.info? e = some i) (hz : i.zero = some z)
    (hsize : i.size = k.size) (hzs : z.cells.size = k.size) (bytes : Nat) (hbt : i.bytes = bytes) (n m c : Nat) (hn : xs.length = n) (hm' : ys.length = m)
    (hsv : a.eval sx = .slice A n cap) (hxv : a.eval xx = .slice B m c)
    (o : Ow k h A cap xs) (s : h.sub w) (src : Src k hx w B ys) (sx' : hx.sub w) (ap : h.apart hx)
    (hm : n + m ≤ maxLen) (hby : (n + m) * bytes ≤ 140737488355328)
    (H : ∀ A' cap' w' h', Ow k h' A' cap' (xs ++ ys) → Upd (h.or hx) h' w w' → wpList P ops Q rest (a.put op.dst (.slice A' (n + m) cap')) w') : wpList P ops Q (op :: rest) a w := by
  simp only [wpList, hgd, if_true]
  exact .inl (wp_append sx xx t ho e i z ht hi hz hsize hzs bytes hbt n m c hn hm' hsv hxv o s src sx' ap hm hby H)

/-- append as a step of a region that draws its order. -/
theorem step_append {w : World} {ops : Array Oper} {op : Oper} {a : Act} {K : Act → World → Prop} {Q : Exit → Act → World → Prop} {E : Prop} (hgd : op.guard = none) (sx xx : Operand) (t : TypeId)
    (ho : op.op = .call { callee := .builtin .append, args := #[sx, xx], argTypes := #[t, t] })
    (e : TypeId) (i : TypeInfo) (z : Value) (ht : P.underlying t = some (.slice e)) (hi : P.info? e = some i) (hz : i.zero = some z)
    (hsize : i.size = k.size) (hzs : z.cells.size = k.size) (bytes : Nat) (hbt : i.bytes = bytes) (n m c : Nat) (hn : xs.length = n) (hm' : ys.length = m)
    (hsv : a.eval sx = .slice A n cap) (hxv : a.eval xx = .slice B m c)
    (o : Ow k h A cap xs) (s : h.sub w) (src : Src k hx w B ys) (sx' : hx.sub w) (ap : h.apart hx)
    (hm : n + m ≤ maxLen) (hby : (n + m) * bytes ≤ 140737488355328)
    (H : ∀ A' cap' w' h', Ow k h' A' cap' (xs ++ ys) → Upd (h.or hx) h' w w' → K (a.put op.dst (.slice A' (n + m) cap')) w') :
    if Region.wanted op (yielded ops a.tmps) = true then Oper.wp P op a w K Q else E := by
  rw [if_pos (by simp [Region.wanted, hgd])]
  exact wp_append sx xx t ho e i z ht hi hz hsize hzs bytes hbt n m c hn hm' hsv hxv o s src sx' ap hm hby H

/-- of flat elements: nothing beside. -/
theorem Upd.flat {w w' : World} {h h' : Hp} (u : Upd (h.or Hp.none) h' w w') : Upd h h' w w' := by rwa [Hp.or_none] at u
theorem Hp.apart_none (h : Hp) : h.apart Hp.none := fun _ _ => rfl

end

/-- A store into one cell of an element of an owned slice. -/
theorem Ow.setK {α : Type} {k : Kd α} {h : Hp} {b off cap : Nat} {xs : List α} {w : World}
    (o : Ow k h (some ⟨b, off, .none⟩) cap xs) (s : h.sub w) {i j : Nat} {x x' : α} {v : Value} (hx : xs[i]? = some x) (hj : j < k.size) (hx' : ∀ cs, k.K (h.del b) x cs → k.K (h.del b) x' (cs.set j v)) :
    ∃ h', Ow k h' (some ⟨b, off, .none⟩) cap (xs.set i x') ∧ Upd h h' w (w.setCell ⟨b, off + i * k.size + j, .none⟩ v) ∧ h'.del b = h.del b := by
  have hi : i < xs.length := (List.getElem?_eq_some_iff.1 hx).1
  obtain ⟨b', off', cur, E, e, hb, hsz, hrow⟩ := o.row _ rfl (by have := o.le; omega)
  cases e
  have hbw := s b _ hb
  have hdel : (h.put b (.cells (cur.setIfInBounds (off + i * k.size + j) v) E (0, 0))).del b = h.del b := by
    funext q; simp only [Hp.del, Hp.put]; split <;> simp_all
  refine ⟨h.put b (.cells (cur.setIfInBounds (off + i * k.size + j) v) E (0, 0)), ⟨by simpa using o.le, o.max, o.nil, ?_⟩, ?_, hdel⟩
  · rintro ad ⟨⟩ _
    refine ⟨b, off, _, E, rfl, if_pos rfl, by simpa using hsz, ?_⟩
    intro m y hy
    rw [hdel]
    by_cases hm : m = i
    · subst hm
      rw [List.getElem?_set_self hi] at hy
      cases hy
      obtain ⟨cs, hK, hc⟩ := hrow m x hx
      have hl := k.len hK
      refine ⟨cs.set j v, hx' cs hK, fun q u hu => ?_⟩
      by_cases hq : q = j
      · subst hq
        rw [List.getElem?_set_self (by rw [hl]; exact hj)] at hu
        cases hu
        have := hc q _ (List.getElem?_eq_getElem (by rw [hl]; exact hj))
        have hlt := (Array.getElem?_eq_some_iff.1 this).1
        rw [Array.getElem?_setIfInBounds_self]; simp [hlt]
      · rw [List.getElem?_set_ne (by omega)] at hu
        have := hc q u hu
        rw [Array.getElem?_setIfInBounds_ne (by omega)]; exact this
    · rw [List.getElem?_set_ne (by omega)] at hy
      obtain ⟨cs, hK, hc⟩ := hrow m y hy
      refine ⟨cs, hK, fun q u hu => ?_⟩
      have hq : q < k.size := by rw [← k.len hK]; exact (List.getElem?_eq_some_iff.1 hu).1
      have := hc q u hu
      rw [Array.getElem?_setIfInBounds_ne ?_]
      · exact this
      · intro e
        rcases Nat.lt_or_gt_of_ne hm with h | h
        · have h2 : (m + 1) * k.size ≤ i * k.size := Nat.mul_le_mul_right _ h
          rw [Nat.add_mul] at h2; omega
        · have h2 : (i + 1) * k.size ≤ m * k.size := Nat.mul_le_mul_right _ h
          rw [Nat.add_mul] at h2; omega
  · have e1 : w.setCell ⟨b, off + i * k.size + j, .none⟩ v = w.setRow b (cur.setIfInBounds (off + i * k.size + j) v) := setCell_eq_setRow w b _ cur E (0, 0) v hbw
    rw [e1]
    refine ⟨rfl, rfl, rfl, by simp, fun q hq hn => setRow_other w b q _ (fun e => by rw [e, hb] at hn; cases hn), ?_, ?_⟩
    · intro q o' e'
      simp only [Hp.put] at e'
      split at e'
      · rename_i hq; cases e'; rw [hq]; exact setRow_heap w b cur _ E _ hbw
      · rename_i hq; rw [setRow_other w b q _ hq]; exact s q o' e'
    · intro q hq
      left
      simp only [Hp.put] at hq
      split at hq
      · rename_i h2; rw [h2, hb]; simp
      · exact hq
/-- The same, where the cells say all. -/
theorem Ow.set {α : Type} {size : Nat} {cells : α → List Value} {pos : 0 < size} {hl : ∀ x, (cells x).length = size} {h1 : ∀ x, ∀ u ∈ cells x, u.oneCell' = true} {h : Hp} {b off cap : Nat} {xs : List α} {w : World}
    (o : Ow (Kd.flat size cells pos hl h1) h (some ⟨b, off, .none⟩) cap xs) (s : h.sub w) {i j : Nat} {x x' : α} {v : Value} (hx : xs[i]? = some x) (hj : j < size) (hx' : cells x' = (cells x).set j v) :
    ∃ h', Ow (Kd.flat size cells pos hl h1) h' (some ⟨b, off, .none⟩) cap (xs.set i x') ∧ Upd h h' w (w.setCell ⟨b, off + i * size + j, .none⟩ v) := by
  obtain ⟨h', a, b, _⟩ := o.setK s (x' := x') (v := v) hx hj (fun cs hK => by
    have hK' : cs = cells x := hK
    subst hK'
    exact hx'.symm)
  exact ⟨h', a, b⟩
theorem lt_of_some {α : Type} {xs : List α} {i : Nat} {x : α} (h : xs[i]? = some x) : 0 < xs.length := by have := (List.getElem?_eq_some_iff.1 h).1; omega
theorem Ow.cell_free {α : Type} {k : Kd α} {h : Hp} {b off cap : Nat} {xs : List α} {w : World} (o : Ow k h (some ⟨b, off, .none⟩) cap xs) (s : h.sub w) (hc : 0 < xs.length) (n : Nat) : w.frozen? ⟨b, n, .none⟩ = false := by
  obtain ⟨b', off', cur, E, e, hb, _, _⟩ := o.row _ rfl (by have := o.le; omega)
  cases e
  exact frozen_of_row w b n cur E (s b _ hb)

end Go.Sl
end
section
/- The small functions of the program and of the document's answer, as plain Lean on whole numbers. No program is named here. -/
namespace Go.Sl
open Go Go.RowKit

/-- Any number as one from 0 to n - 1. -/
def within (v n : Int) : Int := v % n
theorem within_lo (v : Int) {n : Int} (h : 0 < n) : 0 ≤ within v n := Int.emod_nonneg _ (by omega)
theorem within_hi (v : Int) {n : Int} (h : 0 < n) : within v n < n := Int.emod_lt_of_pos _ h

theorem tmod_emod_neg {v n : Int} (h : 0 < n) (hv : v.tmod n < 0) : v.tmod n + n = v % n := by
  have h1 := Int.tmod_def v n
  have h2 := Int.emod_def v n
  have h3 : v < 0 := by
    rcases Int.lt_or_le v 0 with h | h
    · exact h
    · have := Int.tmod_nonneg n h; omega
  rw [Int.tmod_eq_emod] at hv ⊢
  split <;> rename_i hc <;> simp_all
  · have := Int.emod_nonneg v (show n ≠ 0 by omega); omega
  · have : (n.natAbs : Int) = n := by omega
    omega
theorem tmod_emod_pos {v n : Int} (h : 0 < n) (hv : ¬ v.tmod n < 0) : v.tmod n = v % n := by
  have h4 := Int.emod_lt_of_pos v h
  rw [Int.tmod_eq_emod] at hv ⊢
  split <;> rename_i hc <;> simp_all
  have : (n.natAbs : Int) = n := by omega
  omega

/-- What the generators make of a number. -/
def amount (n : Int) : Int :=
  if n.tmod 23 = 20 then 100000000000 - within (n.tdiv 23) 5 + 2
  else if n.tmod 23 = 21 then -100000000000 + within (n.tdiv 23) 5 - 2
  else if n.tmod 23 = 22 then n
  else if n.tmod 23 = 19 then within (n.tdiv 23) 200000000001 - 100000000000
  else within n 4001 - 2000

def money (n : Int) : Bool := decide (-100000000000 ≤ n ∧ n ≤ 100000000000)
def rightRate (r : Int) : Bool := decide (0 ≤ r ∧ r ≤ 1000000)
/-- A part of an amount, rounded to the nearest: halves away from 0. -/
def partOf (n r : Int) : Int := if n < 0 then (2 * n * r - 1000000).tdiv 2000000 else (2 * n * r + 1000000).tdiv 2000000
theorem partOf_pos {n r : Int} (h : 0 ≤ n) (hr : 0 ≤ r) : partOf n r = (2 * (n * r) + 1000000) / 2000000 := by
  have h1 : 0 ≤ n * r := Int.mul_nonneg h hr
  unfold partOf
  rw [if_neg (by omega), Int.mul_assoc, Int.tdiv_eq_ediv_of_nonneg (by omega)]
theorem partOf_opp (n r : Int) : partOf (-n) r = -partOf n r := by
  unfold partOf
  have e : 2 * -n * r = -(2 * n * r) := by rw [Int.mul_neg, Int.neg_mul]
  rcases Int.lt_trichotomy n 0 with h | h | h
  · rw [if_neg (by omega), if_pos h, ← Int.neg_tdiv, e]; congr 1; omega
  · subst h; simp
  · rw [if_pos (by omega), if_neg (by omega), ← Int.neg_tdiv, e]; congr 1; omega
theorem partOf_neg {n r : Int} (h : n ≤ 0) (hr : 0 ≤ r) : partOf n r = -((2 * (-n * r) + 1000000) / 2000000) := by
  have h1 := partOf_opp (-n) r
  rw [Int.neg_neg] at h1
  rw [h1, partOf_pos (by omega) hr]
theorem mul_bd {n r : Int} (h1 : -400000000000 ≤ n) (h2 : n ≤ 400000000000) (h3 : 0 ≤ r) (h4 : r ≤ 10000000) : -8000000000000000000 ≤ 2 * n * r ∧ 2 * n * r ≤ 8000000000000000000 := by
  have a : 2 * n * r ≤ 800000000000 * r := Int.mul_le_mul_of_nonneg_right (by omega) h3
  have b : -800000000000 * r ≤ 2 * n * r := Int.mul_le_mul_of_nonneg_right (by omega) h3
  omega
theorem partOf_bd {n r : Int} (h1 : -400000000000 ≤ n) (h2 : n ≤ 400000000000) (h3 : 0 ≤ r) (h4 : r ≤ 10000000) : -4000000000001 ≤ partOf n r ∧ partOf n r ≤ 4000000000001 := by
  have h5 := mul_bd h1 h2 h3 h4
  rw [Int.mul_assoc] at h5
  rcases Int.le_total 0 n with h | h
  · rw [partOf_pos h h3]; have := Int.mul_nonneg h h3; omega
  · rw [partOf_neg h h3, Int.neg_mul]; omega
def ofOk (n r : Int) : Bool := decide (-400000000000 ≤ n ∧ n ≤ 400000000000 ∧ 0 ≤ r ∧ r ≤ 10000000)
def ofVal (n r : Int) : Int := if ofOk n r then partOf n r else 0

theorem ofOk_neg (n r : Int) : ofOk (-n) r = ofOk n r := by unfold ofOk; exact decide_eq_decide.2 (by omega)
theorem ofVal_neg (n r : Int) : ofVal (-n) r = -ofVal n r := by
  unfold ofVal
  rw [ofOk_neg, partOf_opp]
  split <;> simp
theorem ofVal_bd (n r : Int) : -4000000000001 ≤ ofVal n r ∧ ofVal n r ≤ 4000000000001 := by
  unfold ofVal
  split
  · rename_i h
    simp only [ofOk, decide_eq_true_eq] at h
    exact partOf_bd h.1 h.2.1 h.2.2.1 h.2.2.2
  · omega

end Go.Sl
end
