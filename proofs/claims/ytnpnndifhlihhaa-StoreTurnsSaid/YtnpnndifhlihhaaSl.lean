/- A small library for walks: parts of memory as ghost values, what a call turns of them, slices that read as lists, slices that are owned. No program is named here. -/
import Derived.WalkKit
namespace Go.Sl
open Go Go.RowKit

/-- A part of memory: some blocks, each with what it holds. -/
abbrev Hp := Nat → Option Obj

def Hp.none : Hp := fun _ => Option.none
def Hp.one (b : Nat) (o : Obj) : Hp := fun k => if k = b then some o else Option.none
def Hp.del (h : Hp) (b : Nat) : Hp := fun k => if k = b then Option.none else h k
def Hp.or (h k : Hp) : Hp := fun b => (h b).or (k b)
def Hp.put (h : Hp) (b : Nat) (o : Obj) : Hp := fun k => if k = b then some o else h k
def Hp.le (h k : Hp) : Prop := ∀ b o, h b = some o → k b = some o
def Hp.apart (h k : Hp) : Prop := ∀ b, h b ≠ Option.none → k b = Option.none
def Hp.sub (h : Hp) (w : World) : Prop := ∀ b o, h b = some o → w.heap[b]? = some o
/-- All of a world's memory. -/
def Hp.all (w : World) : Hp := fun b => w.heap[b]?

theorem Hp.le_refl (h : Hp) : h.le h := fun _ _ e => e
theorem Hp.le.trans {a b c : Hp} (h : a.le b) (k : b.le c) : a.le c := fun x o e => k x o (h x o e)
theorem Hp.none_le (h : Hp) : Hp.none.le h := fun _ _ e => by simp [Hp.none] at e
theorem Hp.none_sub (w : World) : Hp.none.sub w := fun _ _ e => by simp [Hp.none] at e
theorem Hp.all_sub (w : World) : (Hp.all w).sub w := fun _ _ e => e
theorem Hp.sub.le {h k : Hp} {w : World} (s : k.sub w) (l : h.le k) : h.sub w := fun b o e => s b o (l b o e)
theorem Hp.sub.le_all {h : Hp} {w : World} (s : h.sub w) : h.le (Hp.all w) := s
theorem Hp.sub.lt {h : Hp} {w : World} (s : h.sub w) {b : Nat} (e : h b ≠ Option.none) : b < w.heap.size := by
  cases hb : h b with
  | none => exact absurd hb e
  | some o => exact (Array.getElem?_eq_some_iff.1 (s b o hb)).1
theorem Hp.del_le (h : Hp) (b : Nat) : (h.del b).le h := fun k o e => by
  simp only [Hp.del] at e; split at e <;> simp_all
theorem Hp.le_or_left (h k : Hp) : h.le (h.or k) := fun b o e => by simp [Hp.or, e]
theorem Hp.le_or_right {h k : Hp} (a : h.apart k) : k.le (h.or k) := fun b o e => by
  have : h b = Option.none := by
    cases hb : h b with
    | none => rfl
    | some x => have := a b (by simp [hb]); simp [this] at e
  simp [Hp.or, this, e]
theorem Hp.sub.or {h k : Hp} {w : World} (s : h.sub w) (t : k.sub w) : (h.or k).sub w := fun b o e => by
  simp only [Hp.or] at e
  cases hb : h b with
  | none => rw [hb] at e; exact t b o (by simpa using e)
  | some x => rw [hb] at e; exact s b o (by simpa [hb] using e)
theorem Hp.sub.cell {h : Hp} {w : World} (s : h.sub w) {b i : Nat} {cur : Array Value} {E : TypeId} {fr : Nat × Nat} (e : h b = some (.cells cur E fr)) {v : Value}
    (hv : cur[i]? = some v) : w.cell? ⟨b, i, .none⟩ = some v := by
  rw [cell_of_row w b i cur E fr (s b _ e)]; exact hv
theorem Hp.sub.of_below {h : Hp} {w w' : World} (s : h.sub w) (b : Below w.heap.size w w') : h.sub w' := fun k o e => by
  rw [b.block k (s.lt (by simp [e]))]; exact s k o e

/-- What a call turns: of the part h of memory it makes the part h'; what lay outside h stands. -/
structure Upd (h h' : Hp) (w w' : World) : Prop where
  os : w'.os = w.os
  tape : w'.tape = w.tape
  output : w'.output = w.output
  size : w.heap.size ≤ w'.heap.size
  keep : ∀ b, b < w.heap.size → h b = .none → w'.heap[b]? = w.heap[b]?
  sub : h'.sub w'
  dom : ∀ b, h' b ≠ .none → h b ≠ .none ∨ w.heap.size ≤ b

theorem Upd.of_below {w w' : World} (b : Below w.heap.size w w') : Upd Hp.none Hp.none w w' :=
  ⟨b.os, b.tape, b.output, b.size, fun k hk _ => b.block k hk, Hp.none_sub _, fun _ h => absurd rfl h⟩
theorem Upd.below {h' : Hp} {w w' : World} (u : Upd Hp.none h' w w') : Below w.heap.size w w' :=
  ⟨u.os, u.tape, u.output, u.size, fun k hk => u.keep k hk rfl⟩
theorem Upd.keeps {h h' k : Hp} {w w' : World} (u : Upd h h' w w') (a : h.apart k) (s : k.sub w) : k.sub w' := fun b o e => by
  have hb : h b = .none := by
    cases hb : h b with
    | none => rfl
    | some x => have := a b (by simp [hb]); simp [this] at e
  rw [u.keep b (s.lt (by simp [e])) hb]; exact s b o e
theorem Upd.apart {h h' k : Hp} {w w' : World} (u : Upd h h' w w') (a : h.apart k) (s : k.sub w) : h'.apart k := fun b e => by
  cases hk : k b with
  | none => rfl
  | some o =>
    rcases u.dom b e with h1 | h1
    · rw [a b h1] at hk; simp at hk
    · have := s.lt (b := b) (by simp [hk]); omega
theorem Hp.apart.symm {h k : Hp} (a : h.apart k) : k.apart h := fun b e => by
  cases hb : h b with
  | none => rfl
  | some o => exact absurd (a b (by simp [hb])) e
/-- before: things of the function's own (new blocks) were made. -/
theorem Upd.before {h h' : Hp} {w w1 w' : World} (b : Below w.heap.size w w1) (u : Upd h h' w1 w') : Upd h h' w w' :=
  ⟨u.os.trans b.os, u.tape.trans b.tape, u.output.trans b.output, Nat.le_trans b.size u.size,
    fun k hk hn => (u.keep k (Nat.lt_of_lt_of_le hk b.size) hn).trans (b.block k hk), u.sub,
    fun k hk => (u.dom k hk).imp id (Nat.le_trans b.size)⟩
theorem Upd.after {h h' : Hp} {w w1 w' : World} (u : Upd h h' w w1) (b : Below w1.heap.size w1 w') : Upd h h' w w' :=
  ⟨b.os.trans u.os, b.tape.trans u.tape, b.output.trans u.output, Nat.le_trans u.size b.size,
    fun k hk hn => (b.block k (Nat.lt_of_lt_of_le hk u.size)).trans (u.keep k hk hn), u.sub.of_below b, u.dom⟩
theorem Upd.trans {h h1 h2 : Hp} {w w1 w2 : World} (u : Upd h h1 w w1) (v : Upd h1 h2 w1 w2) : Upd h h2 w w2 :=
  ⟨v.os.trans u.os, v.tape.trans u.tape, v.output.trans u.output, Nat.le_trans u.size v.size,
    fun k hk hn => by
      have h1n : h1 k = .none := by
        cases hh : h1 k with
        | none => rfl
        | some o => rcases u.dom k (by simp [hh]) with e | e
                    · exact absurd hn e
                    · omega
      exact (v.keep k (Nat.lt_of_lt_of_le hk u.size) h1n).trans (u.keep k hk hn),
    v.sub, fun k hk => by
      rcases v.dom k hk with e | e
      · exact u.dom k e
      · exact .inr (Nat.le_trans u.size e)⟩
theorem Upd.weaken {h h' k' : Hp} {w w' : World} (u : Upd h h' w w') (l : k'.le h') : Upd h k' w w' :=
  ⟨u.os, u.tape, u.output, u.size, u.keep, u.sub.le l, fun b e => u.dom b (by
    cases hk : k' b with
    | none => exact absurd hk e
    | some o => simp [l b o hk])⟩
/-- more of memory named than is turned. -/
theorem Upd.widen {h h' k : Hp} {w w' : World} (u : Upd h h' w w') (a : h.apart k) (s : k.sub w) : Upd (h.or k) (h'.or k) w w' :=
  ⟨u.os, u.tape, u.output, u.size, fun b hb e => u.keep b hb (by simp [Hp.or] at e; exact e.1), u.sub.or (u.keeps a s), fun b e => by
    by_cases hb : h' b = .none
    · left; simp only [Hp.or, hb, Option.none_or] at e
      simp only [Hp.or]; cases h b <;> simp_all
    · rcases u.dom b hb with h1 | h1
      · left; simp only [Hp.or]; cases hh : h b <;> simp_all
      · exact .inr h1⟩

theorem Upd.new_none {h' : Hp} {w w' : World} (u : Upd Hp.none h' w w') {b : Nat} (hb : b < w.heap.size) : h' b = .none := by
  cases hh : h' b with
  | none => rfl
  | some o =>
    rcases u.dom b (by simp [hh]) with e | e
    · exact absurd rfl e
    · omega
theorem Upd.cell {h h' : Hp} {w w' : World} (u : Upd h h' w w') {p : Addr} {v : Value} (hp : w.cell? p = some v) (hn : h p.block = .none) : w'.cell? p = some v :=
  (World.cell?_of_block (w := w) (u.keep p.block (World.block_lt_of_cell? w p hp) hn)).trans hp

/-- The parts of memory that a body holds apart from each other. -/
def Own (w : World) : List Hp → Prop
  | [] => True
  | h :: l => h.sub w ∧ (∀ k ∈ l, h.apart k) ∧ Own w l

theorem Own.get {w : World} : ∀ {l : List Hp}, Own w l → ∀ (i : Nat) (h : Hp), l[i]? = some h → h.sub w
  | [], _, i, h, e => by simp at e
  | _ :: _, o, 0, h, e => by simp at e; subst e; exact o.1
  | _ :: _, o, i + 1, h, e => Own.get o.2.2 i h (by simpa using e)
theorem Own.mem {w : World} : ∀ {l : List Hp}, Own w l → ∀ h ∈ l, Hp.sub h w
  | k :: l, o, h, e => by
    rcases List.mem_cons.1 e with rfl | e
    · exact o.1
    · exact o.2.2.mem h e
theorem Own.below {w w' : World} (b : Below w.heap.size w w') : ∀ {l : List Hp}, Own w l → Own w' l
  | [], _ => trivial
  | _ :: _, o => ⟨o.1.of_below b, o.2.1, o.2.2.below b⟩
theorem Own.upd {w w' : World} {h h' : Hp} (u : Upd h h' w w') : ∀ {l : List Hp} (i : Nat), Own w l → l[i]? = some h → Own w' (l.set i h')
  | [], i, _, e => by simp at e
  | k :: l, 0, o, e => by
    simp at e; subst e
    refine ⟨u.sub, fun q hq => u.apart (o.2.1 q hq) (o.2.2.mem q hq), ?_⟩
    have key : ∀ l : List Hp, (∀ q ∈ l, k.apart q) → Own w l → Own w' l := by
      intro l
      induction l with
      | nil => exact fun _ _ => trivial
      | cons q l ih => exact fun a o => ⟨u.keeps (a q (by simp)) o.1, o.2.1, ih (fun x hx => a x (by simp [hx])) o.2.2⟩
    exact key l o.2.1 o.2.2
  | k :: l, i + 1, o, e => by
    have hm : h ∈ l := by
      have : l[i]? = some h := by simpa using e
      exact List.mem_of_getElem? this
    refine ⟨u.keeps (o.2.1 h hm).symm o.1, ?_, o.2.2.upd u i (by simpa using e)⟩
    intro q hq
    rcases List.mem_or_eq_of_mem_set hq with hq | rfl
    · exact o.2.1 q hq
    · exact (u.apart (o.2.1 h hm).symm o.1).symm
/-- something new. -/
theorem Own.fresh {w w' : World} {h' : Hp} (u : Upd Hp.none h' w w') {l : List Hp} (o : Own w l) : Own w' (h' :: l) :=
  ⟨u.sub, fun k hk => u.apart (fun _ e => absurd rfl e) (o.mem k hk), o.below u.below⟩
theorem Own.drop {w : World} {h : Hp} {l : List Hp} (o : Own w (h :: l)) : Own w l := o.2.2
theorem Own.head {w : World} {h : Hp} {l : List Hp} (o : Own w (h :: l)) : h.sub w := o.1
theorem Own.erase {w : World} : ∀ {l : List Hp} (i : Nat), Own w l → Own w (l.eraseIdx i)
  | [], _, o => by simpa using o
  | _ :: _, 0, o => o.2.2
  | h :: l, i + 1, o => ⟨o.1, fun k hk => o.2.1 k (List.mem_of_mem_eraseIdx hk), o.2.2.erase i⟩
/-- the two first, as one part. -/
theorem Own.join {w : World} {h k : Hp} {l : List Hp} (o : Own w (h :: k :: l)) : Own w (h.or k :: l) :=
  ⟨o.1.or o.2.2.1, fun q hq b e => by
    by_cases hb : h b = .none
    · exact o.2.2.2.1 q hq b (by simp only [Hp.or, hb, Option.none_or] at e; exact e)
    · exact o.2.1 q (by simp [hq]) b hb, o.2.2.2.2⟩
theorem Own.apart {w : World} {h : Hp} {l : List Hp} (o : Own w (h :: l)) {k : Hp} (hk : k ∈ l) : h.apart k := o.2.1 k hk
theorem Own.swap {w : World} {h k : Hp} {l : List Hp} (o : Own w (h :: k :: l)) : Own w (k :: h :: l) :=
  ⟨o.2.2.1, fun q hq => by
    rcases List.mem_cons.1 hq with rfl | hq
    · exact (o.2.1 k (by simp)).symm
    · exact o.2.2.2.1 q hq, o.1, fun q hq => o.2.1 q (by simp [hq]), o.2.2.2.2⟩

end Go.Sl
