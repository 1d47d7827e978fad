/- Walks and plain facts that the laws of this seat share, part 2: contracts of functions, each said at its theorem. -/
import Derived.Test.YtpigoegjoagbnaaPk1
import Derived.Lib.Hide
import Derived.Deep.Draws
import Derived.Shelf.SlSortCmp.WholeK
set_option linter.all false
section
/- More of the library for walks: append of one new element, clones, pointers to structs. No program is named here. -/
namespace Go.Sl
open Go Go.RowKit
section
variable {P : Program} {α : Type} {k : Kd α} {h hx : Hp} {A B : Option Addr} {cap : Nat} {xs ys : List α} {w : World}
/-- What the table says of an element's type. -/
def Info (P : Program) (e : TypeId) (z : Value) (size bytes : Nat) : Prop := (P.info? e).map (fun i => (i.zero, i.size, i.bytes)) = some (some z, size, bytes)
theorem wp_app1 {op : Oper} {a : Act} {K : Act → World → Prop} {Q : Exit → Act → World → Prop} {sx xx : Operand} {t e : TypeId} {z : Value} {bytes : Nat} {y : α} {cs : List Value} {T : TypeId} {fr : Nat × Nat} {b : Nat}
    (ht : P.underlying t = some (.slice e)) (hinfo : Info P e z k.size bytes) (hzs : z.cells.size = k.size)
    (ho : op.op = .call { callee := .builtin .append, args := #[sx, xx], argTypes := #[t, t] }) (n c : Nat) (hsv : a.eval sx = .slice A n cap) (hxv : a.eval xx = .slice (some ⟨b, 0, none⟩) 1 c)
    (hn : xs.length = n) (o : Ow k h A cap xs) (s : h.sub w) (hb : w.heap[b]? = some (.cells cs.toArray T fr)) (hK : k.K hx y cs) (sx' : hx.sub w) (ap : h.apart hx)
    (hm : n + 1 ≤ 1000000000) (hby : bytes ≤ 1000)
    (H : ∀ A' cap' w' h', Ow k h' A' cap' (xs ++ [y]) → Upd (h.or hx) h' w w' → K (a.put op.dst (.slice A' (n + 1) cap')) w') : op.wp P a w K Q := by
  unfold Info at hinfo
  obtain ⟨i, hi, hz0, hz1, hz2⟩ := info_parts hinfo
  refine wp_append sx xx t ho e i z ht hi hz0 hz1 hzs bytes hz2 n 1 c hn rfl hsv hxv o s (Src.new hb hK) sx' ap (by unfold maxLen; omega) ?_ H
  have : (n + 1) * bytes ≤ 1000000000 * 1000 := Nat.mul_le_mul hm hby
  omega
theorem wpList_app1 {ops : Array Oper} {rest : List Oper} {op : Oper} {a : Act} {Q : Exit → Act → World → Prop} {sx xx : Operand} {t e : TypeId} {z : Value} {bytes : Nat} {y : α} {cs : List Value} {T : TypeId} {fr : Nat × Nat} {b : Nat}
    (ht : P.underlying t = some (.slice e)) (hinfo : Info P e z k.size bytes) (hzs : z.cells.size = k.size) (hgd : Region.wanted op (yielded ops a.tmps) = true)
    (ho : op.op = .call { callee := .builtin .append, args := #[sx, xx], argTypes := #[t, t] }) (n c : Nat) (hsv : a.eval sx = .slice A n cap) (hxv : a.eval xx = .slice (some ⟨b, 0, none⟩) 1 c)
    (hn : xs.length = n) (o : Ow k h A cap xs) (s : h.sub w) (hb : w.heap[b]? = some (.cells cs.toArray T fr)) (hK : k.K hx y cs) (sx' : hx.sub w) (ap : h.apart hx)
    (hm : n + 1 ≤ 1000000000) (hby : bytes ≤ 1000)
    (H : ∀ A' cap' w' h', Ow k h' A' cap' (xs ++ [y]) → Upd (h.or hx) h' w w' → wpList P ops Q rest (a.put op.dst (.slice A' (n + 1) cap')) w') : wpList P ops Q (op :: rest) a w := by
  simp only [wpList, hgd, if_true]
  exact .inl (wp_app1 ht hinfo hzs ho n c hsv hxv hn o s hb hK sx' ap hm hby H)
theorem step_app1 {ops : Array Oper} {op : Oper} {a : Act} {K : Act → World → Prop} {Q : Exit → Act → World → Prop} {E : Prop} {sx xx : Operand} {t e : TypeId} {z : Value} {bytes : Nat} {y : α} {cs : List Value} {T : TypeId} {fr : Nat × Nat} {b : Nat}
    (ht : P.underlying t = some (.slice e)) (hinfo : Info P e z k.size bytes) (hzs : z.cells.size = k.size) (hgd : op.guard = none)
    (ho : op.op = .call { callee := .builtin .append, args := #[sx, xx], argTypes := #[t, t] }) (n c : Nat) (hsv : a.eval sx = .slice A n cap) (hxv : a.eval xx = .slice (some ⟨b, 0, none⟩) 1 c)
    (hn : xs.length = n) (o : Ow k h A cap xs) (s : h.sub w) (hb : w.heap[b]? = some (.cells cs.toArray T fr)) (hK : k.K hx y cs) (sx' : hx.sub w) (ap : h.apart hx)
    (hm : n + 1 ≤ 1000000000) (hby : bytes ≤ 1000)
    (H : ∀ A' cap' w' h', Ow k h' A' cap' (xs ++ [y]) → Upd (h.or hx) h' w w' → K (a.put op.dst (.slice A' (n + 1) cap')) w') :
    if Region.wanted op (yielded ops a.tmps) = true then Oper.wp P op a w K Q else E := by
  rw [if_pos (by simp [Region.wanted, hgd])]
  exact wp_app1 ht hinfo hzs ho n c hsv hxv hn o s hb hK sx' ap hm hby H
/-- The same for elements whose cells say all. -/
theorem wpList_app1f {ops : Array Oper} {rest : List Oper} {op : Oper} {a : Act} {Q : Exit → Act → World → Prop} {sx xx : Operand} {t e : TypeId} {z : Value} {bytes : Nat} {y : α} {cs : List Value} {T : TypeId} {fr : Nat × Nat} {b : Nat}
    (ht : P.underlying t = some (.slice e)) (hinfo : Info P e z k.size bytes) (hzs : z.cells.size = k.size) (hgd : Region.wanted op (yielded ops a.tmps) = true)
    (ho : op.op = .call { callee := .builtin .append, args := #[sx, xx], argTypes := #[t, t] }) (n c : Nat) (hsv : a.eval sx = .slice A n cap) (hxv : a.eval xx = .slice (some ⟨b, 0, none⟩) 1 c)
    (hn : xs.length = n) (o : Ow k h A cap xs) (s : h.sub w) (hb : w.heap[b]? = some (.cells cs.toArray T fr)) (hK : k.K Hp.none y cs)
    (hm : n + 1 ≤ 1000000000) (hby : bytes ≤ 1000)
    (H : ∀ A' cap' w' h', Ow k h' A' cap' (xs ++ [y]) → Upd h h' w w' → wpList P ops Q rest (a.put op.dst (.slice A' (n + 1) cap')) w') : wpList P ops Q (op :: rest) a w :=
  wpList_app1 ht hinfo hzs hgd ho n c hsv hxv hn o s hb hK (Hp.none_sub _) (Hp.apart_none _) hm hby fun A' cap' w' h' h1 h2 => H A' cap' w' h' h1 h2.flat
theorem step_app1f {ops : Array Oper} {op : Oper} {a : Act} {K : Act → World → Prop} {Q : Exit → Act → World → Prop} {E : Prop} {sx xx : Operand} {t e : TypeId} {z : Value} {bytes : Nat} {y : α} {cs : List Value} {T : TypeId} {fr : Nat × Nat} {b : Nat}
    (ht : P.underlying t = some (.slice e)) (hinfo : Info P e z k.size bytes) (hzs : z.cells.size = k.size) (hgd : op.guard = none)
    (ho : op.op = .call { callee := .builtin .append, args := #[sx, xx], argTypes := #[t, t] }) (n c : Nat) (hsv : a.eval sx = .slice A n cap) (hxv : a.eval xx = .slice (some ⟨b, 0, none⟩) 1 c)
    (hn : xs.length = n) (o : Ow k h A cap xs) (s : h.sub w) (hb : w.heap[b]? = some (.cells cs.toArray T fr)) (hK : k.K Hp.none y cs)
    (hm : n + 1 ≤ 1000000000) (hby : bytes ≤ 1000)
    (H : ∀ A' cap' w' h', Ow k h' A' cap' (xs ++ [y]) → Upd h h' w w' → K (a.put op.dst (.slice A' (n + 1) cap')) w') :
    if Region.wanted op (yielded ops a.tmps) = true then Oper.wp P op a w K Q else E :=
  step_app1 ht hinfo hzs hgd ho n c hsv hxv hn o s hb hK (Hp.none_sub _) (Hp.apart_none _) hm hby fun A' cap' w' h' h1 h2 => H A' cap' w' h' h1 h2.flat
/-- append of a whole slice of flat elements. -/
theorem wpList_appF {ops : Array Oper} {rest : List Oper} {op : Oper} {a : Act} {Q : Exit → Act → World → Prop} {sx xx : Operand} {t e : TypeId} {z : Value} {bytes cb : Nat}
    (ht : P.underlying t = some (.slice e)) (hinfo : Info P e z k.size bytes) (hzs : z.cells.size = k.size) (hgd : Region.wanted op (yielded ops a.tmps) = true)
    (ho : op.op = .call { callee := .builtin .append, args := #[sx, xx], argTypes := #[t, t] }) (n m c : Nat) (hsv : a.eval sx = .slice A n cap) (hxv : a.eval xx = .slice B m c)
    (hn : xs.length = n) (hm' : ys.length = m) (f : k.Flat) (o : Ow k h A cap xs) (s : h.sub w) (sy : Sl k hx B cb ys) (sx' : hx.sub w)
    (hm : n + m ≤ 1000000000) (hby : bytes ≤ 1000)
    (H : ∀ A' cap' w' h', Ow k h' A' cap' (xs ++ ys) → Upd h h' w w' → wpList P ops Q rest (a.put op.dst (.slice A' (n + m) cap')) w') : wpList P ops Q (op :: rest) a w := by
  unfold Info at hinfo
  obtain ⟨i, hi, hz0, hz1, hz2⟩ := info_parts hinfo
  refine wpList_append_g hgd sx xx t ho e i z ht hi hz0 hz1 hzs bytes hz2 n m c hn hm' hsv hxv o s ((sy.src sx').flat f Hp.none) (Hp.none_sub _) (Hp.apart_none _) (by unfold maxLen; omega) ?_ (fun A' cap' w' h' h1 h2 => H A' cap' w' h' h1 h2.flat)
  have : (n + m) * bytes ≤ 1000000000 * 1000 := Nat.mul_le_mul hm hby
  omega
/-- append(s[:0:0], s...): a copy in new memory. -/
theorem wpList_clone {ops : Array Oper} {rest : List Oper} {op : Oper} {a : Act} {Q : Exit → Act → World → Prop} {sx xx : Operand} {t e : TypeId} {z : Value} {bytes : Nat}
    (ht : P.underlying t = some (.slice e)) (hinfo : Info P e z k.size bytes) (hzs : z.cells.size = k.size) (hgd : Region.wanted op (yielded ops a.tmps) = true)
    (ho : op.op = .call { callee := .builtin .append, args := #[sx, xx], argTypes := #[t, t] }) (n c : Nat) (hsv : a.eval sx = .slice B 0 0) (hxv : a.eval xx = .slice A n c)
    (hn : xs.length = n) (f : k.Flat) (o : Sl k h A cap xs) (s : h.sub w) (hm : n ≤ 1000000000) (hby : bytes ≤ 1000)
    (H : ∀ A' cap' w' h', Ow k h' A' cap' xs → Upd Hp.none h' w w' → wpList P ops Q rest (a.put op.dst (.slice A' n cap')) w') : wpList P ops Q (op :: rest) a w := by
  unfold Info at hinfo
  obtain ⟨i, hi, hz0, hz1, hz2⟩ := info_parts hinfo
  refine wpList_append_g hgd sx xx t ho e i z ht hi hz0 hz1 hzs bytes hz2 0 n c rfl hn hsv hxv (Ow.zero k Hp.none B) (Hp.none_sub _) ((o.src s).flat f Hp.none) (Hp.none_sub _) (Hp.apart_none _) (by unfold maxLen; omega) ?_ ?_
  · have : (0 + n) * bytes ≤ 1000000000 * 1000 := Nat.mul_le_mul (by omega) hby
    omega
  · intro A' cap' w' h' h1 h2
    rw [Nat.zero_add]
    exact H A' cap' w' h' h1 h2.flat
end
/-- A pointer's block, wholly h's: a struct of the kind k. -/
def Pt {α : Type} (k : Kd α) (T : TypeId) (h : Hp) (b : Nat) (x : α) : Prop := ∃ cs : List Value, h b = some (.cells cs.toArray T (0, 0)) ∧ k.K (h.del b) x cs
section
variable {α : Type} {k : Kd α} {h : Hp} {T : TypeId} {b : Nat} {x : α} {w : World}
theorem Pt.block (p : Pt k T h b x) (s : h.sub w) : ∃ cs : List Value, w.heap[b]? = some (.cells cs.toArray T (0, 0)) ∧ k.K (h.del b) x cs := by
  obtain ⟨cs, h1, h2⟩ := p; exact ⟨cs, s b _ h1, h2⟩
theorem Hp.sub.del {h : Hp} {w : World} (s : h.sub w) (b : Nat) : (h.del b).sub w := s.le (Hp.del_le h b)
theorem Hp.put_sub {h : Hp} {b : Nat} {o : Obj} {w : World} (s : h.sub w) (e : w.heap[b]? = some o) : (h.put b o).sub w := fun q o' e' => by
  simp only [Hp.put] at e'
  split at e'
  · rename_i hq; cases e'; rw [hq]; exact e
  · exact s q o' e'
theorem Hp.put_del {h : Hp} {b : Nat} {o : Obj} (e : h b = Option.none) : (h.put b o).del b = h := by
  funext q; simp only [Hp.del, Hp.put]; split
  · rename_i hq; rw [hq, e]
  · rfl
theorem Hp.put_self {h : Hp} {b : Nat} {o : Obj} : (h.put b o) b = some o := if_pos rfl
theorem Hp.del_self {h : Hp} {b : Nat} : (h.del b) b = Option.none := if_pos rfl
/-- A new block beside what is there. -/
theorem Pt.new {cs : List Value} {x : α} (n : h b = Option.none) (hK : k.K h x cs) : Pt k T (h.put b (.cells cs.toArray T)) b x :=
  ⟨cs, Hp.put_self, by rw [Hp.put_del n]; exact hK⟩
/-- What was made before, eaten by a change. -/
theorem Upd.eat {hx hl hl' : Hp} {w0 w1 : World} (u : Upd Hp.none hx w w0) (v : Upd (hl.or hx) hl' w0 w1) : Upd hl hl' w w1 :=
  ⟨v.os.trans u.os, v.tape.trans u.tape, v.output.trans u.output, Nat.le_trans u.size v.size,
    fun q hq hn => (v.keep q (Nat.lt_of_lt_of_le hq u.size) (by simp [Hp.or, hn, u.new_none hq])).trans (u.keep q hq rfl), v.sub, fun q hq => by
      rcases v.dom q hq with h1 | h1
      · by_cases hn : hl q = .none
        · simp only [Hp.or, hn, Option.none_or] at h1
          rcases u.dom q h1 with h2 | h2
          · exact absurd rfl h2
          · exact .inr h2
        · exact .inl hn
      · exact .inr (Nat.le_trans u.size h1)⟩
/-- A block of the part is stored into, behind a change of the rest. -/
theorem Upd.field {hr r' : Hp} {w1 : World} {cs : List Value} {v : Value} (j : Nat) (hb : h b = some (.cells cs.toArray T (0, 0))) (s : h.sub w) (hr' : hr.le (h.del b)) (u : Upd hr r' w w1) :
    Upd h (r'.put b (.cells (cs.set j v).toArray T (0, 0))) w (w1.setCell ⟨b, j, .none⟩ v) ∧ r' b = .none := by
  have hbw := s b _ hb
  have hlt := s.lt (b := b) (by simp [hb])
  have hrn : hr b = .none := by
    cases hh : hr b with
    | none => rfl
    | some o => have := hr' b o hh; simp [Hp.del] at this
  have hb1 : w1.heap[b]? = some (.cells cs.toArray T (0, 0)) := (u.keep b hlt hrn).trans hbw
  have e1 : w1.setCell ⟨b, j, .none⟩ v = w1.setRow b (cs.toArray.setIfInBounds j v) := setCell_eq_setRow w1 b _ _ T (0, 0) v hb1
  have e2 : cs.toArray.setIfInBounds j v = (cs.set j v).toArray := by simp
  have hr0 : r' b = .none := by
    cases hh : r' b with
    | none => rfl
    | some o =>
      rcases u.dom b (by simp [hh]) with h1 | h1
      · exact absurd hrn h1
      · omega
  rw [e1, e2]
  refine ⟨⟨u.os, u.tape, u.output, by simpa using u.size, fun q hq hn => ?_, ?_, fun q hq => ?_⟩, hr0⟩
  · have hqb : q ≠ b := fun e => by rw [e, hb] at hn; cases hn
    rw [setRow_other w1 b q _ hqb]
    refine u.keep q hq ?_
    cases hh : hr q with
    | none => rfl
    | some o => have := Hp.del_le h b q o (hr' q o hh); rw [hn] at this; cases this
  · intro q o2 e2
    simp only [Hp.put] at e2
    split at e2
    · rename_i hq; cases e2; rw [hq]; exact setRow_heap w1 b _ _ T _ hb1
    · rename_i hq; rw [setRow_other w1 b q _ hq]; exact u.sub q o2 e2
  · simp only [Hp.put] at hq
    split at hq
    · rename_i hq2; left; rw [hq2, hb]; simp
    · rcases u.dom q hq with h1 | h1
      · left
        cases hh : hr q with
        | none => exact absurd hh h1
        | some o => rw [Hp.del_le h b q o (hr' q o hh)]; simp
      · exact .inr h1
end
/-- All that stood below reads as it did. -/
theorem bcell {W w1 : World} (hb : Below W.heap.size W w1) : (∀ b o, b < W.heap.size → w1.cell? ⟨b, o, .none⟩ = W.cell? ⟨b, o, .none⟩) ∧ (∀ b o, b < W.heap.size → w1.frozen? ⟨b, o, .none⟩ = W.frozen? ⟨b, o, .none⟩) :=
  ⟨fun b o h => hb.cell (p := ⟨b, o, .none⟩) h, fun b o h => hb.frozen (p := ⟨b, o, .none⟩) h⟩
/-- A store into a block of the call's own that is not told. -/
theorem Upd.setNew {h h' : Hp} {w w1 : World} {b j : Nat} {v : Value} (u : Upd h h' w w1) (hb : w.heap.size ≤ b) (hn : h' b = .none) : Upd h h' w (w1.setCell ⟨b, j, .none⟩ v) := by
  have B : ∀ q, q ≠ b → (w1.setCell ⟨b, j, .none⟩ v).heap[q]? = w1.heap[q]? := fun q hq => Below.heap_setCell w1 ⟨b, j, .none⟩ v q hq
  have S : (w1.setCell ⟨b, j, .none⟩ v).heap.size = w1.heap.size := by simp
  have G : Below b w1 (w1.setCell ⟨b, j, .none⟩ v) := (Below.refl b w1).setCell (Nat.le_refl _) v
  refine ⟨G.os.trans u.os, G.tape.trans u.tape, G.output.trans u.output, by rw [S]; exact u.size, fun q hq hn => ?_, fun q o e => ?_, u.dom⟩
  · rw [B q (by omega)]; exact u.keep q hq hn
  · rw [B q (fun e2 => by rw [e2, hn] at e; cases e)]; exact u.sub q o e
theorem Upd.frozen {h h' : Hp} {w w' : World} (u : Upd h h' w w') {p : Addr} (hp : p.block < w.heap.size) (hn : h p.block = .none) : w'.frozen? p = w.frozen? p :=
  World.frozen?_of_block (w := w) (u.keep p.block hp hn)
theorem frozen_alloc {w : World} {o : Obj} {b n : Nat} (h : b < w.heap.size) : (w.alloc o).frozen? ⟨b, n, .none⟩ = w.frozen? ⟨b, n, .none⟩ := ((Below.refl _ _).alloc (Nat.le_refl _) o).frozen h
theorem cell_alloc {w : World} {o : Obj} {b n : Nat} (h : b < w.heap.size) : (w.alloc o).cell? ⟨b, n, .none⟩ = w.cell? ⟨b, n, .none⟩ := ((Below.refl _ _).alloc (Nat.le_refl _) o).cell h
theorem cell_new {w : World} {cs : Array Value} {T : TypeId} {b i : Nat} (hb : b = w.heap.size) : (w.alloc (.cells cs T)).cell? ⟨b, i, .none⟩ = cs[i]? := cell_of_row _ b i cs T (0, 0) (heap_new_at hb)
end Go.Sl
end
section
/- The memory that a body holds: parts of its own, apart from each other, all made since it began. No program is named here. -/
namespace Go.Sl
open Go Go.RowKit
/-- Of the world w0 nothing has turned; the parts l were made since, and are apart. -/
structure Env (w0 w : World) (l : List Hp) : Prop where
  own : Own w l
  fr : ∀ h ∈ l, ∀ q, h q ≠ Option.none → w0.heap.size ≤ q
  low : Below w0.heap.size w0 w
section
variable {w0 w w1 : World} {l : List Hp} {h h' : Hp}
theorem Env.start (w : World) : Env w w [] := ⟨trivial, fun _ e => absurd e (by simp), Below.refl _ _⟩
theorem Env.below (E : Env w0 w l) (b : Below w.heap.size w w1) : Env w0 w1 l := ⟨E.own.below b, E.fr, E.low.trans (b.mono E.low.size)⟩
theorem Own.snoc {w : World} {h' : Hp} (s : h'.sub w) : ∀ {l : List Hp}, Own w l → (∀ k ∈ l, k.apart h') → Own w (l ++ [h'])
  | [], _, _ => ⟨s, fun _ e => absurd e (by simp), trivial⟩
  | k :: l, o, a => ⟨o.1, fun q hq => by
      rcases List.mem_append.1 hq with hq | hq
      · exact o.2.1 q hq
      · simp at hq; subst hq; exact a k (by simp), o.2.2.snoc s fun q hq => a q (by simp [hq])⟩
theorem Env.new (E : Env w0 w l) (u : Upd Hp.none h' w w1) : Env w0 w1 (l ++ [h']) :=
  ⟨(E.own.below u.below).snoc u.sub fun k hk => (u.apart (fun _ e => absurd rfl e) (E.own.mem k hk)).symm, fun k hk q hq => by
    rcases List.mem_append.1 hk with hk | hk
    · exact E.fr k hk q hq
    · simp at hk; subst hk
      rcases u.dom q hq with e | e
      · exact absurd rfl e
      · exact Nat.le_trans E.low.size e, E.low.trans (u.below.mono E.low.size)⟩
theorem Env.upd (E : Env w0 w l) (i : Nat) (hi : l[i]? = some h) (u : Upd h h' w w1) : Env w0 w1 (l.set i h') :=
  ⟨E.own.upd u i hi, fun k hk q hq => by
    rcases List.mem_or_eq_of_mem_set hk with hk | rfl
    · exact E.fr k hk q hq
    · rcases u.dom q hq with e | e
      · exact E.fr h (List.mem_of_getElem? hi) q e
      · exact Nat.le_trans E.low.size e,
   ⟨u.os.trans E.low.os, u.tape.trans E.low.tape, u.output.trans E.low.output, Nat.le_trans E.low.size u.size, fun q hq => by
    refine (u.keep q (Nat.lt_of_lt_of_le hq E.low.size) ?_).trans (E.low.block q hq)
    cases hh : h q with
    | none => rfl
    | some o => have := E.fr h (List.mem_of_getElem? hi) q (by simp [hh]); omega⟩⟩
theorem Env.sub (E : Env w0 w l) (i : Nat) (hi : l[i]? = some h) : h.sub w := E.own.get i h hi
theorem Env.drop (E : Env w0 w l) (i : Nat) : Env w0 w (l.eraseIdx i) := ⟨E.own.erase i, fun k hk => E.fr k (List.mem_of_mem_eraseIdx hk), E.low⟩
theorem Env.arg (E : Env w0 w l) {k : Hp} (s : k.sub w0) : k.sub w := s.of_below E.low
/-- A new block. -/
theorem Upd.newBlock (w : World) (o : Obj) : Upd Hp.none (Hp.one w.heap.size o) w (w.alloc o) :=
  ⟨rfl, rfl, rfl, by simp, fun q hq _ => heap_old_at hq, Hp.one_sub (heap_new_at rfl), fun q hq => by
    right
    simp only [Hp.one] at hq
    split at hq
    · omega
    · exact absurd rfl hq⟩
theorem Hp.sub.free {h : Hp} {w : World} (s : h.sub w) {b : Nat} (hb : w.heap.size ≤ b) : h b = Option.none := by
  cases hh : h b with
  | none => rfl
  | some o => have := s.lt (b := b) (by simp [hh]); omega
/-- A new block that holds what was made before. -/
theorem Upd.put {o : Obj} (u : Upd Hp.none h' w w1) : Upd Hp.none (h'.put w1.heap.size o) w (w1.alloc o) :=
  ⟨u.os, u.tape, u.output, by simp; exact Nat.le_trans u.size (Nat.le_succ _), fun q hq hn => (heap_old_at (Nat.lt_of_lt_of_le hq u.size)).trans (u.keep q hq hn), Hp.put_sub (u.sub.of_below ((Below.refl _ _).alloc (Nat.le_refl _) _)) (heap_new_at rfl), fun q hq => by
    simp only [Hp.put] at hq
    split at hq
    · right; have := u.size; omega
    · exact u.dom q hq⟩
theorem Env.alloc (E : Env w0 w l) (o : Obj) : Env w0 (w.alloc o) (l ++ [Hp.one w.heap.size o]) := E.new (Upd.newBlock w o)
theorem Env.drew (E : Env w0 w l) : Env w0 w.drew l := E.below ((Below.refl _ _).drew)
theorem Env.drewN (E : Env w0 w l) (n : Nat) : Env w0 (w.drewN n) l := E.below ⟨rfl, rfl, rfl, Nat.le_refl _, fun _ _ => rfl⟩
theorem Env.alloc' (E : Env w0 w l) (o : Obj) : Env w0 (w.alloc o) l := E.below ((Below.refl _ _).alloc (Nat.le_refl _) o)
theorem flatMap_len {α : Type} {size : Nat} {cells : α → List Value} (hl : ∀ x, (cells x).length = size) : ∀ xs : List α, (xs.flatMap cells).length = xs.length * size
  | [] => by simp
  | y :: ys => by simp only [List.flatMap_cons, List.length_append, hl, flatMap_len hl ys, List.length_cons, Nat.add_mul, Nat.one_mul]; omega
/-- A literal of flat elements in a new block, owned. -/
theorem Ow.lit {α : Type} {size : Nat} {cells : α → List Value} {pos : 0 < size} {hl : ∀ x, (cells x).length = size} {h1 : ∀ x, ∀ u ∈ cells x, u.oneCell' = true} {h : Hp} {b : Nat} {t : TypeId} {xs : List α}
    (hb : h b = some (.cells (xs.flatMap cells).toArray t (0, 0))) (hm : xs.length ≤ maxLen) : Ow (Kd.flat size cells pos hl h1) h (some ⟨b, 0, .none⟩) xs.length xs :=
  ⟨Nat.le_refl _, hm, (fun e => (nomatch e)), fun ad e _ => by
    cases e
    refine ⟨b, 0, _, t, rfl, hb, ?_, fun i x hx => ⟨cells x, rfl, fun j u hu => ?_⟩⟩
    · have := flatMap_len hl xs
      simp only [Kd.flat, List.size_toArray, this]; omega
    · rw [Nat.zero_add, List.getElem?_toArray]; exact flatMap_get hl xs i x hx j u hu⟩
/-- The rest of a part turns, one block stands. -/
theorem Upd.rest {k' : Hp} {b : Nat} {o : Obj} (hb : h b = some o) (s : h.sub w) (u : Upd (h.del b) k' w w1) : Upd h (k'.put b o) w w1 ∧ k' b = .none := by
  have hlt := s.lt (b := b) (by simp [hb])
  have hk : k' b = .none := by
    cases hh : k' b with
    | none => rfl
    | some q =>
      rcases u.dom b (by simp [hh]) with e | e
      · exact absurd Hp.del_self e
      · omega
  refine ⟨⟨u.os, u.tape, u.output, u.size, fun q hq hn => u.keep q hq (by simp [Hp.del, hn]), fun q o' e => ?_, fun q e => ?_⟩, hk⟩
  · simp only [Hp.put] at e
    split at e
    · rename_i hq; cases e; rw [hq]; exact (u.keep b hlt Hp.del_self).trans (s b _ hb)
    · exact u.sub q o' e
  · simp only [Hp.put] at e
    split at e
    · rename_i hq; left; rw [hq, hb]; simp
    · rcases u.dom q e with h1 | h1
      · left; intro h0; exact h1 (by simp [Hp.del, h0])
      · exact .inr h1
theorem Own.apart_of {w : World} : ∀ {l : List Hp}, Own w l → ∀ {i j : Nat} {h k : Hp}, l[i]? = some h → l[j]? = some k → i ≠ j → h.apart k
  | [], _, i, j, h, k, e, _, _ => by simp at e
  | a :: l, o, 0, 0, h, k, _, _, n => absurd rfl n
  | a :: l, o, 0, j + 1, h, k, e1, e2, _ => by simp at e1 e2; subst e1; exact o.2.1 k (List.mem_of_getElem? e2)
  | a :: l, o, i + 1, 0, h, k, e1, e2, _ => by simp at e1 e2; subst e2; exact (o.2.1 h (List.mem_of_getElem? e1)).symm
  | a :: l, o, i + 1, j + 1, h, k, e1, e2, n => o.2.2.apart_of (i := i) (j := j) (by simpa using e1) (by simpa using e2) (by omega)
/-- A part is written into, and not told any more. -/
theorem Env.scratch (E : Env w0 w l) (i : Nat) (hi : l[i]? = some h) {b j : Nat} {v : Value} (hb : h b ≠ .none) : Env w0 (w.setCell ⟨b, j, .none⟩ v) (l.eraseIdx i) := by
  have D := E.drop i
  have hB : w0.heap.size ≤ b := E.fr h (List.mem_of_getElem? hi) b hb
  have hn : ∀ k ∈ l.eraseIdx i, k b = .none := fun k hk => by
    obtain ⟨m, hm⟩ := List.mem_iff_getElem?.1 hk
    rw [List.getElem?_eraseIdx] at hm
    split at hm
    · exact E.own.apart_of hi hm (by omega) b hb
    · exact E.own.apart_of hi hm (by omega) b hb
  have G : Below b w (w.setCell ⟨b, j, .none⟩ v) := (Below.refl b w).setCell (Nat.le_refl _) v
  have S : (w.setCell ⟨b, j, .none⟩ v).heap.size = w.heap.size := by simp
  refine ⟨?_, D.fr, D.low.setCell hB v⟩
  have key : ∀ l : List Hp, Own w l → (∀ k ∈ l, k b = .none) → Own (w.setCell ⟨b, j, .none⟩ v) l := by
    intro l
    induction l with
    | nil => exact fun _ _ => trivial
    | cons k l ih =>
      intro o hk
      refine ⟨fun q o' e => ?_, o.2.1, ih o.2.2 fun x hx => hk x (by simp [hx])⟩
      rw [Below.heap_setCell w ⟨b, j, .none⟩ v q (fun hq => by have := hk k (by simp); rw [show q = b from hq, this] at e; cases e)]
      exact o.1 q o' e
  exact key _ D.own hn
end
end Go.Sl
end
section
/- What the shelf's sort of structs does to an owned slice. No program is named here. -/
namespace Go.Sl
open Go Go.RowKit Go.Sort Go.Proofs
section
variable {α : Type} [Inhabited α] {size : Nat} {cells : α → List Value} {pos : 0 < size} {hl : ∀ x, (cells x).length = size} {h1 : ∀ x, ∀ u ∈ cells x, u.oneCell' = true} {h : Hp} {b off cap : Nat} {xs : List α} {w : World}
theorem Ow.holds (o : Ow (Kd.flat size cells pos hl h1) h (some ⟨b, off, .none⟩) cap xs) (s : h.sub w) (hc : 0 < xs.length) : HoldsK cells size w b off xs.toArray := by
  obtain ⟨b', off', cur, E, e, hb, hsz, hrow⟩ := o.row _ rfl (by have := o.le; omega)
  cases e
  have hbw := s b _ hb
  intro t ht
  have ht' : t < xs.length * size := by simpa [size_flatK] using ht
  have hq : t / size < xs.length := (Nat.div_lt_iff_lt_mul pos).2 ht'
  have hm : t % size < size := Nat.mod_lt _ pos
  obtain ⟨cs, hK, hcs⟩ := hrow (t / size) xs[t / size] (by simp [hq])
  have hK' : cs = cells xs[t / size] := hK
  subst hK'
  have hu := hcs (t % size) _ (List.getElem?_eq_getElem (by rw [hl]; exact hm))
  have e2 : off + t / size * size + t % size = off + t := by
    have := Nat.div_add_mod t size
    rw [Nat.mul_comm] at this; omega
  simp only [Kd.flat] at hu
  rw [e2] at hu
  refine ⟨?_, frozen_of_row w b _ cur E hbw⟩
  rw [cell_of_row w b _ cur E (0, 0) hbw, hu, get_flatK _ _ _ t (by simpa using ht')]
  simp only [id]
  have e3 : xs.toArray[t / size]! = xs[t / size] := by simp [hq]
  rw [e3, getElem!_pos _ _ (by rw [hl]; exact hm)]
theorem Ow.sorted (o : Ow (Kd.flat size cells pos hl h1) h (some ⟨b, off, .none⟩) cap xs) (s : h.sub w) (hc : 0 < xs.length) {w' : World} {n : Nat} {d : Array α} {os : Array Obj} (hd : d.size = xs.length) (hw : w' = sortWorldK cells size w b off n d os) :
    ∃ h', Ow (Kd.flat size cells pos hl h1) h' (some ⟨b, off, .none⟩) cap d.toList ∧ Upd h h' w w' := by
  obtain ⟨b', off', cur, E, e, hb, hsz, _⟩ := o.row _ rfl (by have := o.le; omega)
  cases e
  have hbw := s b _ hb
  have hlt := s.lt (b := b) (by simp [hb])
  have hle := o.le
  have hsz' : off + cap * size ≤ cur.size := hsz
  have hfit : xs.length * size ≤ cap * size := Nat.mul_le_mul_right _ hle
  have hblock : ∀ q, q < w.heap.size → w'.heap[q]? = if q = b then some (.cells (putCells id off (flatK cells size d) cur) E (0, 0)) else w.heap[q]? := by
    intro q hq
    subst hw
    show (((w.heap.modify b (onCells (putCells id off (flatK cells size d)))) ++ os)[q]?) = _
    rw [Array.getElem?_append, if_pos (by simpa using hq), Array.getElem?_modify]
    by_cases e : b = q
    · subst e
      rw [if_pos rfl, if_pos rfl, hbw]; rfl
    · rw [if_neg e, if_neg (fun h => e h.symm)]
  refine ⟨h.put b (.cells (putCells id off (flatK cells size d) cur) E), ⟨by simpa [hd] using hle, o.max, o.nil, fun ad e _ => ?_⟩, ?_⟩
  · cases e
    refine ⟨b, off, _, E, rfl, Hp.put_self, by simpa [putCells] using hsz, fun i x hx => ⟨cells x, rfl, fun j u hu => ?_⟩⟩
    have hi : i < d.size := by simpa using (List.getElem?_eq_some_iff.1 hx).1
    have hj : j < size := by rw [← hl x]; exact (List.getElem?_eq_some_iff.1 hu).1
    have ht : i * size + j < d.size * size := by
      have := Nat.mul_le_mul_right size (show i + 1 ≤ d.size from hi); rw [Nat.add_mul, Nat.one_mul] at this; omega
    have e1 : (i * size + j) / size = i := by rw [Nat.mul_comm, Nat.mul_add_div pos, Nat.div_eq_of_lt hj, Nat.add_zero]
    have e2 : (i * size + j) % size = j := by rw [Nat.mul_comm, Nat.mul_add_mod, Nat.mod_eq_of_lt hj]
    have hds : d.size * size = xs.length * size := by rw [hd]
    simp only [Kd.flat, putCells, Array.getElem?_mapIdx]
    rw [Array.getElem?_eq_getElem (by omega)]
    simp only [Option.map_some, size_flatK]
    rw [if_pos (by omega)]
    have e4 : off + i * size + j - off = i * size + j := by omega
    have e5 : d[i]! = x := by
      have h2 := (List.getElem?_eq_some_iff.1 hx).2
      rw [getElem!_pos d i hi]; simpa using h2
    have hu2 := List.getElem?_eq_some_iff.1 hu
    rw [e4, get_flatK _ _ _ _ ht, e1, e2, e5, getElem!_pos _ _ (by rw [hl]; exact hj), hu2.2]; rfl
  · refine ⟨by subst hw; rfl, by subst hw; rfl, by subst hw; rfl, ?_, fun q hq hn => ?_, fun q o2 e2 => ?_, fun q hq => ?_⟩
    · subst hw
      show w.heap.size ≤ ((w.heap.modify b _) ++ os).size
      simp
    · rw [hblock q hq, if_neg (fun e => by rw [e, hb] at hn; cases hn)]
    · simp only [Hp.put] at e2
      split at e2
      · rename_i hq; cases e2; rw [hq, hblock b hlt, if_pos rfl]
      · rename_i hq
        rw [hblock q (s.lt (by simp [e2])), if_neg hq]; exact s q o2 e2
    · left
      simp only [Hp.put] at hq
      split at hq
      · rename_i h2; rw [h2, hb]; simp
      · exact hq
end
/-- A rising list's strict weak order. -/
theorem swo_ord {κ α : Type} (o : Ord κ) (key : α → κ) (lt : α → α → Bool) (h : ∀ x y, lt x y = o.lt (key x) (key y)) : SWO lt where
  irrefl x := by rw [h, o.irrefl]
  trans x y z a b := by rw [h] at *; exact o.trans _ _ _ a b
  ntrans x y z a b := by
    rw [h] at *
    rcases o.tri (key x) (key y) with e | e | e
    · rw [a] at e; cases e
    · rw [e]; exact b
    · rcases o.tri (key y) (key z) with f | f | f
      · rw [b] at f; cases f
      · rw [← f]; exact a
      · exact o.asymm (o.trans _ _ _ f e)
/-- What a list of keys, each once, is when sorted. -/
def isort {κ α : Type} [DecidableEq κ] (o : Ord κ) (key : α → κ) (l : List α) : List α := l.foldr (fun x acc => put o key x acc) []
section
variable {κ α : Type} [DecidableEq κ] {o : Ord κ} {key : α → κ}
theorem isort_rising (l : List α) : Rising o key (isort o key l) := by
  induction l with
  | nil => exact List.Pairwise.nil
  | cons x l ih => exact ih.put o key x
theorem mem_isort {l : List α} (h : l.Pairwise fun x y => key x ≠ key y) {z : α} : z ∈ isort o key l ↔ z ∈ l := by
  induction l with
  | nil => simp [isort]
  | cons x l ih =>
    obtain ⟨a, b⟩ := List.pairwise_cons.1 h
    show z ∈ put o key x (isort o key l) ↔ _
    rw [mem_put, ih b, List.mem_cons]
    constructor
    · rintro (e | ⟨e, _⟩)
      · exact .inl e
      · exact .inr e
    · rintro (e | e)
      · exact .inl e
      · exact .inr ⟨e, fun e2 => a z e e2.symm⟩
theorem isort_of [Inhabited α] {l : List α} (hn : l.Pairwise fun x y => key x ≠ key y) {lt : α → α → Bool} (hlt : ∀ x y, lt x y = o.lt (key x) (key y)) {d : Array α} (hp : PermIn 0 l.length l.toArray d) (hs : SortedIn lt 0 l.length d) : d.toList = isort o key l := by
  obtain ⟨h1, _, h3⟩ := hp
  have h1' : d.size = l.length := by simpa using h1
  have hperm : d.toList.Perm l := by
    have e1 : (d.extract 0 l.length).toList = d.toList := by rw [← h1']; simp
    have e2 : (l.toArray.extract 0 l.length).toList = l := by simp
    rwa [e1, e2] at h3
  refine Rising.ext o key (Rising.of_sorted ?_ ?_) (isort_rising l) fun z => by rw [mem_isort hn]; exact hperm.mem_iff
  · rw [List.pairwise_iff_getElem]
    intro i j hi hj hij
    have hi' : i < d.size := by simpa using hi
    have hj' : j < d.size := by simpa using hj
    have := hs i j (Nat.zero_le _) hij (by omega)
    rw [getElem!_pos d i hi', getElem!_pos d j hj', hlt] at this
    simpa using this
  · exact hperm.symm.pairwise hn fun h => h.symm
end
end Go.Sl
end
section
/- Where a predicate first holds. No program is named here. -/
namespace Go.Sl
/-- Where a predicate first holds; -1: nowhere. -/
def idx {α : Type} (p : α → Bool) (xs : List α) : Int := if xs.any p then (xs.findIdx p : Nat) else -1
theorem idx_any {α : Type} (p : α → Bool) (xs : List α) : decide (0 ≤ idx p xs) = xs.any p := by
  unfold idx; split <;> rename_i h <;> simp [h]
theorem idx_hit {α : Type} {p : α → Bool} {xs : List α} {j : Nat} {x : α} (h : ∀ y ∈ xs.take j, p y = false) (hx : xs[j]? = some x) (hp : p x = true) : idx p xs = j := by
  have hj := (List.getElem?_eq_some_iff.1 hx)
  have ha : xs.any p = true := List.any_eq_true.2 ⟨x, List.mem_of_getElem? hx, hp⟩
  simp only [idx, ha, if_true]
  congr 1
  refine (List.findIdx_eq hj.1).2 ⟨by rw [hj.2]; exact hp, fun i hi => ?_⟩
  have hil : i < xs.length := by have := hj.1; omega
  have := h xs[i] (by rw [List.mem_take_iff_getElem]; exact ⟨i, by omega, rfl⟩)
  simpa using this
theorem idx_miss {α : Type} {p : α → Bool} {xs : List α} (h : ∀ y ∈ xs, p y = false) : idx p xs = -1 := by
  have : xs.any p = false := by rw [List.any_eq_false]; intro y hy; simp [h y hy]
  simp [idx, this]
end Go.Sl
end
section
/- The program's register, its rows in any order, plain. No program is named here. -/
namespace Go.Sl
section
variable {κ α : Type} [DecidableEq κ] {o : Ord κ} {key : α → κ}
theorem isort_perm {l : List α} (h : l.Pairwise fun x y => key x ≠ key y) : (isort o key l).Perm l := by
  induction l with
  | nil => exact List.Perm.refl _
  | cons x l ih =>
    obtain ⟨a, b⟩ := List.pairwise_cons.1 h
    have hn : find key (key x) (isort o key l) = none := by
      unfold find; rw [List.find?_eq_none]; intro y hy
      have := a y ((mem_isort b).1 hy); simpa using this.symm
    have hp := put_perm (o := o) x (isort_rising (o := o) (key := key) l)
    rw [del_none hn] at hp
    exact hp.trans ((ih b).cons x)
theorem find_isort {l : List α} (h : l.Pairwise fun x y => key x ≠ key y) (k : κ) : find key k (isort o key l) = find key k l := by
  cases hf : find key k l with
  | none =>
    unfold find; rw [List.find?_eq_none]; intro y hy
    simpa using find_none hf y ((mem_isort h).1 hy)
  | some y =>
    obtain ⟨h1, rfl⟩ := find_some hf
    exact find_mem (o := o) (isort_rising l) ((mem_isort h).2 h1)
/-- The element of a key is another one. -/
theorem set_map {l : List α} (h : l.Pairwise fun x y => key x ≠ key y) {i : Nat} {x y : α} (hx : l[i]? = some x) : l.set i y = l.map fun z => if key z = key x then y else z := by
  induction l generalizing i with
  | nil => simp at hx
  | cons z l ih =>
    obtain ⟨a, b⟩ := List.pairwise_cons.1 h
    cases i with
    | zero =>
      simp at hx; subst hx
      rw [List.set_cons_zero, List.map_cons, if_pos rfl]
      congr 1
      conv => lhs; rw [← List.map_id l]
      exact List.map_congr_left fun w hw => (if_neg fun e => a w hw (Eq.symm e)).symm
    | succ i =>
      have hx' : l[i]? = some x := by simpa using hx
      rw [List.set_cons_succ, List.map_cons, if_neg (a x (List.mem_of_getElem? hx')), ih b hx']
end
theorem Ow.ne_block {α : Type} {k : Kd α} {h : Hp} {b off cap q : Nat} {xs : List α} (o : Ow k h (some ⟨b, off, .none⟩) cap xs) (h0 : 0 < xs.length) (hq : h q = Option.none) : b ≠ q := fun e => by
  obtain ⟨b', off', cur, E, e', hb, _, _⟩ := o.row _ rfl (by have := o.le; omega)
  cases e'
  rw [e, hq] at hb; cases hb
theorem find_miss' {κ α : Type} [DecidableEq κ] {key : α → κ} {k : κ} {l : List α} (h : ∀ y ∈ l, key y ≠ k) : find key k l = none := by
  unfold find; rw [List.find?_eq_none]; intro y hy; simpa using h y hy
def isB (c y : Int) (x : STri) : Bool := decide (x.a = c ∧ x.b = y)
def zeroB (x : STri) : Bool := decide (x.c = 0)
theorem isB_key {c y : Int} {x : STri} : isB c y x = true ↔ rkey x = (c, y) := by simp [isB, rkey]
abbrev DistR (l : List STri) : Prop := l.Pairwise fun x y => rkey x ≠ rkey y
/-- What set lays, before what is 0 goes. -/
def rawPut (l : List STri) (c y n : Int) : List STri :=
  if l.any (isB c y) then l.map fun z => if rkey z = (c, y) then ⟨c, y, n⟩ else z else if n = 0 then l else l ++ [⟨c, y, n⟩]
def rawSet (l : List STri) (c y n : Int) : List STri := (rawPut l c y n).filter fun z => !zeroB z
/-- The rows r, sorted, are the register l. -/
structure RawR (r l : List STri) : Prop where
  dist : DistR r
  eq : isort ordPair rkey r = l
  good : GoodR l
theorem RawR.nil : RawR [] [] := ⟨List.Pairwise.nil, rfl, .nil⟩
section
variable {r l : List STri}
theorem RawR.perm (R : RawR r l) : r.Perm l := by have := (isort_perm (o := ordPair) R.dist).symm; rwa [R.eq] at this
theorem RawR.len (R : RawR r l) : r.length = l.length := R.perm.length_eq
theorem RawR.mem (R : RawR r l) {x : STri} : x ∈ r ↔ x ∈ l := R.perm.mem_iff
theorem RawR.get (R : RawR r l) (c y : Int) : getB r c y = getB l c y := by
  unfold getB; rw [← R.eq, find_isort R.dist]
theorem RawR.sum (R : RawR r l) : sumC r = sumC l := sum_perm (R.perm.map _)
theorem rawPut_dist (h : DistR r) (c y n : Int) : DistR (rawPut r c y n) := by
  unfold rawPut
  split
  · refine List.pairwise_map.2 (h.imp fun {a b} e => ?_)
    by_cases ha : rkey a = (c, y) <;> by_cases hb : rkey b = (c, y)
    · exact absurd (ha.trans hb.symm) e
    · rw [if_pos ha, if_neg hb]; exact fun e => hb e.symm
    · rw [if_neg ha, if_pos hb]; exact ha
    · rw [if_neg ha, if_neg hb]; exact e
  · rename_i hn
    split
    · exact h
    · refine List.pairwise_append.2 ⟨h, by simp, fun a ha b hb => ?_⟩
      simp at hb; subst hb
      intro e
      exact hn (List.any_eq_true.2 ⟨a, ha, isB_key.2 e⟩)
theorem rawSet_dist (h : DistR r) (c y n : Int) : DistR (rawSet r c y n) := (rawPut_dist h c y n).filter _
theorem mem_rawSet (nz : ∀ b ∈ r, b.c ≠ 0) {c y n : Int} {x : STri} : x ∈ rawSet r c y n ↔ (n ≠ 0 ∧ x = ⟨c, y, n⟩) ∨ x ∈ r ∧ rkey x ≠ (c, y) := by
  have H : ∀ x, x ∈ rawPut r c y n → x.c ≠ 0 → (n ≠ 0 ∧ x = ⟨c, y, n⟩) ∨ x ∈ r ∧ rkey x ≠ (c, y) := by
    intro x hx hc
    unfold rawPut at hx
    split at hx
    · obtain ⟨z, hz, e⟩ := List.mem_map.1 hx
      split at e
      · subst e; exact .inl ⟨hc, rfl⟩
      · rename_i hk; subst e; exact .inr ⟨hz, hk⟩
    · rename_i hn
      have hk : ∀ z ∈ r, rkey z ≠ (c, y) := fun z hz e => hn (List.any_eq_true.2 ⟨z, hz, isB_key.2 e⟩)
      split at hx
      · exact .inr ⟨hx, hk x hx⟩
      · rcases List.mem_append.1 hx with hx | hx
        · exact .inr ⟨hx, hk x hx⟩
        · simp at hx; subst hx; exact .inl ⟨hc, rfl⟩
  constructor
  · intro hx
    obtain ⟨h1, h2⟩ := List.mem_filter.1 hx
    exact H x h1 (by simpa [zeroB] using h2)
  · intro hx
    refine List.mem_filter.2 ?_
    rcases hx with ⟨h0, rfl⟩ | ⟨h, hk⟩
    · refine ⟨?_, by simpa [zeroB] using h0⟩
      unfold rawPut
      split
      · rename_i ha
        obtain ⟨z, hz, e⟩ := List.any_eq_true.1 ha
        exact List.mem_map.2 ⟨z, hz, if_pos (isB_key.1 e)⟩
      · first | simp | (rw [if_neg h0]; simp)
    · refine ⟨?_, by simpa [zeroB] using nz x h⟩
      unfold rawPut
      split
      · exact List.mem_map.2 ⟨x, h, if_neg hk⟩
      · split
        · exact h
        · simp [h]
theorem rawSet_nz (c y n : Int) : ∀ b ∈ rawSet r c y n, b.c ≠ 0 := fun b hb => by simpa [zeroB] using (List.mem_filter.1 hb).2
/-- Sorted, what set leaves is what the register's set leaves. -/
theorem rawSet_eq (h : DistR r) (nz : ∀ b ∈ r, b.c ≠ 0) (c y n : Int) : isort ordPair rkey (rawSet r c y n) = setB (isort ordPair rkey r) c y n := by
  refine Rising.ext ordPair rkey (isort_rising _) (rising_setB (isort_rising _) c y n) fun x => ?_
  rw [mem_isort (rawSet_dist h c y n), mem_rawSet nz, mem_setB, mem_isort h]
theorem RawR.nz (R : RawR r l) : ∀ b ∈ r, b.c ≠ 0 := fun b hb => R.good.nz b (R.mem.1 hb)
theorem rawPut_len (c y n : Int) : (rawPut r c y n).length ≤ r.length + 1 := by
  unfold rawPut; split
  · simp
  · split <;> simp
theorem rawSet_len (c y n : Int) : (rawSet r c y n).length ≤ r.length + 1 := Nat.le_trans (List.length_filter_le _ _) (rawPut_len c y n)
theorem rawSet_len_eq (h : DistR r) (nz : ∀ b ∈ r, b.c ≠ 0) (c y n : Int) : (rawSet r c y n).length = (setB (isort ordPair rkey r) c y n).length := by
  rw [← rawSet_eq h nz]; exact ((isort_perm (rawSet_dist h c y n)).length_eq).symm
/-- Where the bucket is, and what it has. -/
theorem getB_idx (l : List STri) (c y : Int) : (idx (isB c y) l = -1 ∧ getB l c y = 0 ∧ l.any (isB c y) = false) ∨ ∃ (i : Nat) (x : STri), l[i]? = some x ∧ idx (isB c y) l = i ∧ getB l c y = x.c ∧ l.any (isB c y) = true ∧ rkey x = (c, y) := by
  by_cases h : l.any (isB c y) = true
  · right
    have hlt : l.findIdx (isB c y) < l.length := List.findIdx_lt_length.2 (List.any_eq_true.1 h)
    have hp := List.findIdx_getElem (w := hlt)
    refine ⟨l.findIdx (isB c y), l[l.findIdx (isB c y)], by simp [hlt], by unfold idx; rw [if_pos h], ?_, h, isB_key.1 hp⟩
    unfold getB find
    have : l.find? (fun z => decide (rkey z = (c, y))) = some l[l.findIdx (isB c y)] := by
      rw [List.find?_eq_some_iff_getElem]
      refine ⟨by simpa using isB_key.1 hp, l.findIdx (isB c y), hlt, rfl, fun j hj => ?_⟩
      have := List.not_of_lt_findIdx hj
      have hf : isB c y l[j] = false := by simpa using this
      have e : ¬ rkey l[j] = (c, y) := fun e => by rw [isB_key.2 e] at hf; cases hf
      simp [e]
    rw [this]
  · left
    have hn : ∀ z ∈ l, isB c y z = false := fun z hz => by
      cases e : isB c y z with
      | false => rfl
      | true => exact absurd (List.any_eq_true.2 ⟨z, hz, e⟩) h
    refine ⟨idx_miss hn, ?_, by simpa using h⟩
    unfold getB find
    have : l.find? (fun z => decide (rkey z = (c, y))) = none := by
      rw [List.find?_eq_none]; intro z hz; have := hn z hz; intro e; rw [isB_key.2 (by simpa using e)] at this; cases this
    rw [this]
end
end Go.Sl
end
section
/- Losses by vintage, plain. No program is named here. -/
namespace Go.Sl
open Go Go.RowKit
/-- A vintage: a its origin, b its expiry, c what is left; by expiry, then origin. -/
def vkey (x : STri) : Int × Int := (x.b, x.a)
abbrev RisingV (l : List STri) : Prop := Rising ordPair vkey l
def isV (o e : Int) (x : STri) : Bool := decide (x.a = o ∧ x.b = e)
def vOk (o e : Int) : Bool := decide (0 ≤ o ∧ o ≤ 99 ∧ o ≤ e ∧ e ≤ 198)
def getV (l : List STri) (o e : Int) : Int := match find vkey (e, o) l with | some x => x.c | none => 0
def putV (l : List STri) (o e n : Int) : List STri := put ordPair vkey ⟨o, e, n⟩ l
def vAddE (l : List STri) (o e n : Int) : Int :=
  if (vOk o e && (decide (1 ≤ n) && money n)) = false then 1
  else if money (sumC l + n) = false then 6
  else if l.any (isV o e) = true then 0
  else if 12 ≤ l.length then 5 else 0
def vAdd (l : List STri) (o e n : Int) : List STri := if vAddE l o e n = 0 then putV l o e (getV l o e + n) else l
def overV (y : Int) (x : STri) : Bool := decide (x.b < y)
def vExp (l : List STri) (y : Int) : List STri := l.filter fun x => !overV y x
def vGone (l : List STri) (y : Int) : Int := sumC (l.filter (overV y))
def badU (x : STri) (u : Int) : Bool := decide (u < 0) || decide (x.c < u)
def lessV (x : STri) (u : Int) : STri := ⟨x.a, x.b, x.c - u⟩
def vTakeE (l : List STri) (us : List Int) : Int := if us.length = l.length ∧ (List.zipWith badU l us).any id = false then 0 else 1
def vTake (l : List STri) (us : List Int) : List STri := if vTakeE l us = 0 then (List.zipWith lessV l us).filter fun z => !zeroB z else l
/-- What holds of all losses. -/
structure GoodV (l : List STri) : Prop where
  rise : RisingV l
  lo : ∀ x ∈ l, 1 ≤ x.c
  rng : ∀ x ∈ l, vOk x.a x.b = true
  mon : sumC l ≤ 100000000000
  len : l.length ≤ 12
theorem GoodV.nil : GoodV [] := ⟨List.Pairwise.nil, by simp, by simp, by simp [sumC], by simp⟩
theorem isV_key {o e : Int} {x : STri} : isV o e x = true ↔ vkey x = (e, o) := by simp [isV, vkey, and_comm]
section
variable {l : List STri}
theorem RisingV.dist (h : RisingV l) : l.Pairwise fun x y => vkey x ≠ vkey y := h.imp fun e => ordPair.ne e
theorem sumC_pos (h : ∀ x ∈ l, 1 ≤ x.c) : (l.length : Int) ≤ sumC l := by
  induction l with
  | nil => simp [sumC]
  | cons y l ih =>
    have h1 := h y (by simp)
    have h2 := ih fun x hx => h x (by simp [hx])
    have e : sumC (y :: l) = y.c + sumC l := by simp [sumC]
    rw [e]; simp only [List.length_cons, Int.natCast_add, Int.natCast_one]; omega
theorem le_sumC (h : ∀ x ∈ l, 1 ≤ x.c) {x : STri} (hx : x ∈ l) : x.c ≤ sumC l := by
  induction l with
  | nil => cases hx
  | cons y l ih =>
    have h1 := h y (by simp)
    have h0 := sumC_pos (l := l) fun x hx => h x (List.mem_cons_of_mem _ hx)
    have e : sumC (y :: l) = y.c + sumC l := by simp [sumC]
    rcases List.mem_cons.1 hx with rfl | hx
    · omega
    · have := ih (fun x hx => h x (by simp [hx])) hx; omega
theorem sumC_take_le (h : ∀ x ∈ l, 1 ≤ x.c) (j : Nat) : 0 ≤ sumC (l.take j) ∧ sumC (l.take j) ≤ sumC l := by
  have e : sumC l = sumC (l.take j) + sumC (l.drop j) := by
    conv => lhs; rw [← List.take_append_drop j l]
    unfold sumC; rw [List.map_append, List.sum_append]
  have h1 := sumC_pos (l := l.take j) fun x hx => h x (List.mem_of_mem_take hx)
  have h2 := sumC_pos (l := l.drop j) fun x hx => h x (List.mem_of_mem_drop hx)
  omega
theorem sumC_put (hr : RisingV l) (o e n : Int) : sumC (putV l o e n) = sumC l - getV l o e + n := by
  have e1 := sum_del (o := ordPair) (key := vkey) (fun b : STri => b.c) (e, o) hr
  have e2 : (l.map (·.c)).sum = ((del vkey (e, o) l).map (·.c)).sum + getV l o e := by
    rw [e1]; unfold getV; cases find vkey (e, o) l <;> rfl
  unfold putV sumC
  rw [sum_put (fun b : STri => b.c) _ hr]
  show ((del vkey (e, o) l).map (·.c)).sum + n = _
  omega
theorem getV_any {o e : Int} (h : l.any (isV o e) = false) : getV l o e = 0 := by
  unfold getV
  rw [find_miss' fun y hy => fun e' => by
    rw [List.any_eq_false] at h; exact h y hy (isV_key.2 e')]
theorem len_putV (hr : RisingV l) (o e n : Int) : (putV l o e n).length = l.length + (if l.any (isV o e) then 0 else 1) := by
  unfold putV
  rw [len_put _ hr]
  have := len_del (o := ordPair) (key := vkey) (e, o) hr
  show (del vkey (e, o) l).length + 1 = _
  cases hf : find vkey (e, o) l with
  | none =>
    rw [hf] at this
    have h : l.any (isV o e) = false := by
      rw [List.any_eq_false]; intro y hy h2; exact find_none hf y hy (isV_key.1 h2)
    rw [h]; simp at this ⊢; omega
  | some y =>
    rw [hf] at this
    obtain ⟨h1, h2⟩ := find_some hf
    have h : l.any (isV o e) = true := List.any_eq_true.2 ⟨y, h1, isV_key.2 h2⟩
    rw [h]; simp at this ⊢; omega
theorem getV_bd (g : GoodV l) (o e : Int) : 0 ≤ getV l o e ∧ getV l o e ≤ sumC l := by
  unfold getV
  split
  · rename_i x hx
    have hm := (find_some hx).1
    have := g.lo x hm
    have := le_sumC g.lo hm
    omega
  · have := sumC_pos g.lo; omega
theorem vAddE_ok {o e n : Int} (h : vAddE l o e n = 0) : vOk o e = true ∧ 1 ≤ n ∧ money n = true ∧ money (sumC l + n) = true ∧ (l.any (isV o e) = true ∨ l.length < 12) := by
  unfold vAddE at h
  split at h
  · cases h
  · split at h
    · cases h
    · rename_i h1 h2
      simp at h1 h2
      split at h
      · rename_i h3; exact ⟨h1.1, h1.2.1, h1.2.2, h2, .inl h3⟩
      · split at h
        · cases h
        · exact ⟨h1.1, h1.2.1, h1.2.2, h2, .inr (by omega)⟩
theorem GoodV.add (g : GoodV l) (o e n : Int) : GoodV (vAdd l o e n) := by
  unfold vAdd
  split
  · rename_i h
    obtain ⟨h1, h2, h3, h4, h5⟩ := vAddE_ok h
    have hb := getV_bd g o e
    have h4' : -100000000000 ≤ sumC l + n ∧ sumC l + n ≤ 100000000000 := by simpa [money] using h4
    refine ⟨g.rise.put _ _ _, fun x hx => ?_, fun x hx => ?_, ?_, ?_⟩
    · rcases (mem_put ordPair vkey).1 hx with rfl | ⟨hx, _⟩
      · show 1 ≤ getV l o e + n; omega
      · exact g.lo x hx
    · rcases (mem_put ordPair vkey).1 hx with rfl | ⟨hx, _⟩
      · exact h1
      · exact g.rng x hx
    · rw [sumC_put g.rise]; omega
    · rw [len_putV g.rise]
      have := g.len
      rcases h5 with h5 | h5
      · rw [if_pos h5]; omega
      · split <;> omega
  · exact g
theorem sumC_filter (p : STri → Bool) : sumC (l.filter p) + sumC (l.filter fun x => !p x) = sumC l := by
  induction l with
  | nil => simp [sumC]
  | cons y l ih =>
    have e : ∀ m, sumC (y :: m) = y.c + sumC m := fun m => by simp [sumC]
    cases hp : p y <;> simp [hp, e] <;> omega
theorem GoodV.exp (g : GoodV l) (y : Int) : GoodV (vExp l y) :=
  ⟨g.rise.filter _ _ _, fun x hx => g.lo x (List.mem_filter.1 hx).1, fun x hx => g.rng x (List.mem_filter.1 hx).1, by
    have h1 := sumC_filter (l := l) (overV y)
    have h2 := sumC_pos (l := l.filter (overV y)) fun x hx => g.lo x (List.mem_filter.1 hx).1
    have h3 := g.mon
    unfold vExp; omega, Nat.le_trans (List.length_filter_le _ _) g.len⟩
/-- An element of a key is another one of it. -/
theorem set_putV (hr : RisingV l) {i : Nat} {x : STri} (hx : l[i]? = some x) (n : Int) : l.set i ⟨x.a, x.b, n⟩ = putV l x.a x.b n := by
  have hd := RisingV.dist hr
  refine Rising.ext ordPair vkey ?_ (hr.put _ _ _) fun z => ?_
  · rw [set_map (key := vkey) hd hx]
    refine List.pairwise_map.2 (hr.imp fun {a b} h => ?_)
    have h1 : ∀ a : STri, vkey (if vkey a = vkey x then (⟨x.a, x.b, n⟩ : STri) else a) = vkey a := fun a => by
      split
      · rename_i h; rw [h]; rfl
      · rfl
    rw [h1, h1]; exact h
  · unfold putV
    rw [mem_put, set_map (key := vkey) hd hx, List.mem_map]
    constructor
    · rintro ⟨a, ha, h⟩
      split at h
      · exact .inl h.symm
      · rename_i hk; subst h; exact .inr ⟨ha, hk⟩
    · rintro (rfl | ⟨h, hk⟩)
      · exact ⟨x, List.mem_of_getElem? hx, if_pos rfl⟩
      · exact ⟨z, h, if_neg hk⟩
theorem isort_putV (hr : RisingV l) {o e n : Int} (h : l.any (isV o e) = false) : (l ++ [(⟨o, e, n⟩ : STri)]).Pairwise (fun x y => vkey x ≠ vkey y) ∧ isort ordPair vkey (l ++ [⟨o, e, n⟩]) = putV l o e n := by
  have hk : ∀ z ∈ l, vkey z ≠ (e, o) := fun z hz e' => by rw [List.any_eq_false] at h; exact h z hz (isV_key.2 e')
  have hd : (l ++ [(⟨o, e, n⟩ : STri)]).Pairwise fun x y => vkey x ≠ vkey y := List.pairwise_append.2 ⟨RisingV.dist hr, by simp, fun a ha b hb => by simp at hb; subst hb; exact hk a ha⟩
  refine ⟨hd, Rising.ext ordPair vkey (isort_rising _) (hr.put _ _ _) fun z => ?_⟩
  unfold putV
  rw [mem_isort hd, mem_put]
  simp only [List.mem_append, List.mem_singleton]
  constructor
  · rintro (h | h)
    · exact .inr ⟨h, hk z h⟩
    · exact .inl h
  · rintro (h | ⟨h, _⟩)
    · exact .inr h
    · exact .inl h
theorem getV_idx (hr : RisingV l) (o e : Int) : (idx (isV o e) l = -1 ∧ l.any (isV o e) = false ∧ getV l o e = 0) ∨ ∃ (i : Nat) (x : STri), l[i]? = some x ∧ idx (isV o e) l = i ∧ getV l o e = x.c ∧ l.any (isV o e) = true ∧ x.a = o ∧ x.b = e := by
  by_cases h : l.any (isV o e) = true
  · right
    have hlt : l.findIdx (isV o e) < l.length := List.findIdx_lt_length.2 (List.any_eq_true.1 h)
    have hp := List.findIdx_getElem (w := hlt)
    have hk := isV_key.1 hp
    refine ⟨l.findIdx (isV o e), l[l.findIdx (isV o e)], by simp [hlt], by unfold idx; rw [if_pos h], ?_, h, ?_⟩
    · have := find_mem (o := ordPair) (key := vkey) hr (List.getElem_mem hlt)
      unfold getV; rw [← hk, this]
    · simpa [isV] using hp
  · left
    have h' : l.any (isV o e) = false := by simpa using h
    refine ⟨idx_miss fun z hz => ?_, h', getV_any h'⟩
    rw [List.any_eq_false] at h'
    simpa using h' z hz
theorem rising_over {y : Int} {x : STri} (h : (x :: l).Pairwise fun a b => ordPair.lt (vkey a) (vkey b) = true) (hx : ¬ x.b < y) : (x :: l).filter (overV y) = [] ∧ (x :: l).filter (fun z => !overV y z) = x :: l := by
  have hall : ∀ z ∈ x :: l, overV y z = false := fun z hz => by
    rcases List.mem_cons.1 hz with rfl | hz
    · simpa [overV] using hx
    · have := (List.pairwise_cons.1 h).1 z hz
      simp [ordPair, vkey] at this
      simp [overV]; omega
  exact ⟨List.filter_eq_nil_iff.2 fun z hz => by simp [hall z hz], List.filter_eq_self.2 fun z hz => by simp [hall z hz]⟩
theorem takeE_zip {us : List Int} (hl : us.length = l.length) : vTakeE l us = (if (List.zipWith badU l us).any id = true then 1 else 0) := by
  unfold vTakeE
  cases h : (List.zipWith badU l us).any id <;> simp [hl]
theorem sumC_less : ∀ (l : List STri) (us : List Int), us.length = l.length → sumC (List.zipWith lessV l us) = sumC l - us.sum
  | [], [], _ => by simp [sumC]
  | x :: l, u :: us, h => by
    have ih := sumC_less l us (by simpa using h)
    simp [sumC, lessV] at ih ⊢
    omega
  | [], _ :: _, h => by simp at h
  | _ :: _, [], h => by simp at h
theorem sumC_nz (l : List STri) : sumC (l.filter fun z => !zeroB z) = sumC l := by
  induction l with
  | nil => rfl
  | cons y l ih =>
    have e : ∀ m, sumC (y :: m) = y.c + sumC m := fun m => by simp [sumC]
    cases hz : zeroB y with
    | true =>
      have : y.c = 0 := by simpa [zeroB] using hz
      simp [hz, e, ih, this]
    | false => simp [hz, e, ih]
theorem zip_get : ∀ {l : List STri} {us : List Int} {j : Nat} {z : STri}, (List.zipWith lessV l us)[j]? = some z → ∃ x u, l[j]? = some x ∧ us[j]? = some u ∧ z = lessV x u := by
  intro l us j z h
  rw [List.getElem?_zipWith] at h
  cases hx : l[j]? with
  | none => simp [hx] at h
  | some x =>
    cases hu : us[j]? with
    | none => simp [hx, hu] at h
    | some u => simp [hx, hu] at h; exact ⟨x, u, rfl, rfl, h.symm⟩
theorem vTake_bad {us : List Int} (h : vTakeE l us = 0) {j : Nat} {x : STri} {u : Int} (hx : l[j]? = some x) (hu : us[j]? = some u) : 0 ≤ u ∧ u ≤ x.c := by
  unfold vTakeE at h
  split at h
  · rename_i h2
    have h3 := h2.2
    rw [List.any_eq_false] at h3
    have h4 := h3 (badU x u) (List.mem_of_getElem? (i := j) (by rw [List.getElem?_zipWith, hx, hu]))
    simp [badU] at h4
    omega
  · cases h
theorem GoodV.take (g : GoodV l) (us : List Int) : GoodV (vTake l us) := by
  unfold vTake
  split
  · rename_i h
    have hl : us.length = l.length := by unfold vTakeE at h; split at h <;> simp_all
    have hmem : ∀ z ∈ List.zipWith lessV l us, ∃ (j : Nat) (x : STri) (u : Int), l[j]? = some x ∧ us[j]? = some u ∧ z = lessV x u := fun z hz => by
      obtain ⟨j, hj⟩ := List.mem_iff_getElem?.1 hz
      obtain ⟨x, u, h1, h2, h3⟩ := zip_get hj
      exact ⟨j, x, u, h1, h2, h3⟩
    have hsum := sumC_less l us hl
    have hus : 0 ≤ us.sum := by
      have : ∀ u ∈ us, 0 ≤ u := fun u hu => by
        obtain ⟨j, hj⟩ := List.mem_iff_getElem?.1 hu
        have hjl : j < l.length := by rw [← hl]; exact (List.getElem?_eq_some_iff.1 hj).1
        exact (vTake_bad h (get_of_lt hjl) hj).1
      clear hsum hmem h hl
      induction us with
      | nil => simp
      | cons u us ih => have h1 := this u (by simp); have h2 := ih fun v hv => this v (by simp [hv]); simp; omega
    refine ⟨(Rising.filter ordPair vkey ?_ _), fun z hz => ?_, fun z hz => ?_, by rw [sumC_nz, hsum]; have := g.mon; omega, ?_⟩
    · refine List.pairwise_iff_getElem.2 fun i j hi hj hij => ?_
      simp only [List.getElem_zipWith]
      simp at hi hj
      exact List.pairwise_iff_getElem.1 g.rise i j (by omega) (by omega) hij
    · obtain ⟨h1, h2⟩ := List.mem_filter.1 hz
      obtain ⟨j, x, u, e1, e2, rfl⟩ := hmem z h1
      have := vTake_bad h e1 e2
      have h3 : ¬ (lessV x u).c = 0 := by simpa [zeroB] using h2
      have h4 : (lessV x u).c = x.c - u := rfl
      omega
    · obtain ⟨h1, h2⟩ := List.mem_filter.1 hz
      obtain ⟨j, x, u, e1, e2, rfl⟩ := hmem z h1
      exact g.rng x (List.mem_of_getElem? e1)
    · have := List.length_filter_le (fun z => !zeroB z) (List.zipWith lessV l us)
      rw [List.length_zipWith] at this
      have h2 := g.len
      omega
  · exact g
end
end Go.Sl
end
