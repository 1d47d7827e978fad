/- Walks and plain facts that the laws of this seat share, part 2: contracts of functions, each said at its theorem. -/
import Derived.Test.YtdcfojohgcmpcaaPk1
import Derived.Lib.Hide
import Derived.Deep.Draws
import Derived.Shelf.SlSortCmp.WholeK
import Derived.Test.YtdcfojohgcmpcaaChecked
import Derived.Shelf.SlGeneric
set_option linter.all false
section
/- More of the library for walks: append of one new element, clones, pointers to structs. No program is named here. -/
namespace Go.Sl
open Go Go.RowKit
section
variable {P : Program} {α : Type} {k : Kd α} {h hx : Hp} {A B : Option Addr} {cap : Nat} {xs ys : List α} {w : World}
/-- What the table says of an element's type. -/
def Info (P : Program) (e : TypeId) (z : Value) (size bytes : Nat) : Prop := (P.info? e).map (fun i => (i.zero, i.size, i.bytes)) = some (some z, size, bytes)
theorem wp_app1 {op : Oper} {a : Act} {K : Act → World → Prop} {Q : Exit → Act → World → Prop} {sx xx : Operand} {t e : TypeId} {z : Value} {bytes : Nat} {y : α} {cs : List Value} {T : TypeId} {fr : Nat × Nat} {b : Nat}
    (ht : P.underlying t = some (.slice e)) (hinfo : Info P e z k.size bytes) (hzs : z.cells.size = k.size)
    (ho : op.op = .call { callee := .builtin .append, args := #[sx, xx], argTypes := #[t, t] }) (n c : Nat) (hsv : a.eval sx = .slice A n cap) (hxv : a.eval xx = .slice (some ⟨b, 0, none⟩) 1 c)
    (hn : xs.length = n) (o : Ow k h A cap xs) (s : h.sub w) (hb : w.heap[b]? = some (.cells cs.toArray T fr)) (hK : k.K hx y cs) (sx' : hx.sub w) (ap : h.apart hx)
    (hm : n + 1 ≤ 1000000000) (hby : bytes ≤ 1000)
    (H : ∀ A' cap' w' h', Ow k h' A' cap' (xs ++ [y]) → Upd (h.or hx) h' w w' → K (a.put op.dst (.slice A' (n + 1) cap')) w') : op.wp P a w K Q := by
  unfold Info at hinfo
  obtain ⟨i, hi, hz0, hz1, hz2⟩ := info_parts hinfo
  refine wp_append sx xx t ho e i z ht hi hz0 hz1 hzs bytes hz2 n 1 c hn rfl hsv hxv o s (Src.new hb hK) sx' ap (by unfold maxLen; omega) ?_ H
  have : (n + 1) * bytes ≤ 1000000000 * 1000 := Nat.mul_le_mul hm hby
  omega
theorem wpList_app1 {ops : Array Oper} {rest : List Oper} {op : Oper} {a : Act} {Q : Exit → Act → World → Prop} {sx xx : Operand} {t e : TypeId} {z : Value} {bytes : Nat} {y : α} {cs : List Value} {T : TypeId} {fr : Nat × Nat} {b : Nat}
    (ht : P.underlying t = some (.slice e)) (hinfo : Info P e z k.size bytes) (hzs : z.cells.size = k.size) (hgd : Region.wanted op (yielded ops a.tmps) = true)
    (ho : op.op = .call { callee := .builtin .append, args := #[sx, xx], argTypes := #[t, t] }) (n c : Nat) (hsv : a.eval sx = .slice A n cap) (hxv : a.eval xx = .slice (some ⟨b, 0, none⟩) 1 c)
    (hn : xs.length = n) (o : Ow k h A cap xs) (s : h.sub w) (hb : w.heap[b]? = some (.cells cs.toArray T fr)) (hK : k.K hx y cs) (sx' : hx.sub w) (ap : h.apart hx)
    (hm : n + 1 ≤ 1000000000) (hby : bytes ≤ 1000)
    (H : ∀ A' cap' w' h', Ow k h' A' cap' (xs ++ [y]) → Upd (h.or hx) h' w w' → wpList P ops Q rest (a.put op.dst (.slice A' (n + 1) cap')) w') : wpList P ops Q (op :: rest) a w := by
  simp only [wpList, hgd, if_true]
  exact .inl (wp_app1 ht hinfo hzs ho n c hsv hxv hn o s hb hK sx' ap hm hby H)
theorem step_app1 {ops : Array Oper} {op : Oper} {a : Act} {K : Act → World → Prop} {Q : Exit → Act → World → Prop} {E : Prop} {sx xx : Operand} {t e : TypeId} {z : Value} {bytes : Nat} {y : α} {cs : List Value} {T : TypeId} {fr : Nat × Nat} {b : Nat}
    (ht : P.underlying t = some (.slice e)) (hinfo : Info P e z k.size bytes) (hzs : z.cells.size = k.size) (hgd : op.guard = none)
    (ho : op.op = .call { callee := .builtin .append, args := #[sx, xx], argTypes := #[t, t] }) (n c : Nat) (hsv : a.eval sx = .slice A n cap) (hxv : a.eval xx = .slice (some ⟨b, 0, none⟩) 1 c)
    (hn : xs.length = n) (o : Ow k h A cap xs) (s : h.sub w) (hb : w.heap[b]? = some (.cells cs.toArray T fr)) (hK : k.K hx y cs) (sx' : hx.sub w) (ap : h.apart hx)
    (hm : n + 1 ≤ 1000000000) (hby : bytes ≤ 1000)
    (H : ∀ A' cap' w' h', Ow k h' A' cap' (xs ++ [y]) → Upd (h.or hx) h' w w' → K (a.put op.dst (.slice A' (n + 1) cap')) w') :
    if Region.wanted op (yielded ops a.tmps) = true then Oper.wp P op a w K Q else E := by
  rw [if_pos (by simp [Region.wanted, hgd])]
  exact wp_app1 ht hinfo hzs ho n c hsv hxv hn o s hb hK sx' ap hm hby H
/-- The same for elements whose cells say all. -/
theorem wpList_app1f {ops : Array Oper} {rest : List Oper} {op : Oper} {a : Act} {Q : Exit → Act → World → Prop} {sx xx : Operand} {t e : TypeId} {z : Value} {bytes : Nat} {y : α} {cs : List Value} {T : TypeId} {fr : Nat × Nat} {b : Nat}
    (ht : P.underlying t = some (.slice e)) (hinfo : Info P e z k.size bytes) (hzs : z.cells.size = k.size) (hgd : Region.wanted op (yielded ops a.tmps) = true)
    (ho : op.op = .call { callee := .builtin .append, args := #[sx, xx], argTypes := #[t, t] }) (n c : Nat) (hsv : a.eval sx = .slice A n cap) (hxv : a.eval xx = .slice (some ⟨b, 0, none⟩) 1 c)
    (hn : xs.length = n) (o : Ow k h A cap xs) (s : h.sub w) (hb : w.heap[b]? = some (.cells cs.toArray T fr)) (hK : k.K Hp.none y cs)
    (hm : n + 1 ≤ 1000000000) (hby : bytes ≤ 1000)
    (H : ∀ A' cap' w' h', Ow k h' A' cap' (xs ++ [y]) → Upd h h' w w' → wpList P ops Q rest (a.put op.dst (.slice A' (n + 1) cap')) w') : wpList P ops Q (op :: rest) a w :=
  wpList_app1 ht hinfo hzs hgd ho n c hsv hxv hn o s hb hK (Hp.none_sub _) (Hp.apart_none _) hm hby fun A' cap' w' h' h1 h2 => H A' cap' w' h' h1 h2.flat
theorem step_app1f {ops : Array Oper} {op : Oper} {a : Act} {K : Act → World → Prop} {Q : Exit → Act → World → Prop} {E : Prop} {sx xx : Operand} {t e : TypeId} {z : Value} {bytes : Nat} {y : α} {cs : List Value} {T : TypeId} {fr : Nat × Nat} {b : Nat}
    (ht : P.underlying t = some (.slice e)) (hinfo : Info P e z k.size bytes) (hzs : z.cells.size = k.size) (hgd : op.guard = none)
    (ho : op.op = .call { callee := .builtin .append, args := #[sx, xx], argTypes := #[t, t] }) (n c : Nat) (hsv : a.eval sx = .slice A n cap) (hxv : a.eval xx = .slice (some ⟨b, 0, none⟩) 1 c)
    (hn : xs.length = n) (o : Ow k h A cap xs) (s : h.sub w) (hb : w.heap[b]? = some (.cells cs.toArray T fr)) (hK : k.K Hp.none y cs)
    (hm : n + 1 ≤ 1000000000) (hby : bytes ≤ 1000)
    (H : ∀ A' cap' w' h', Ow k h' A' cap' (xs ++ [y]) → Upd h h' w w' → K (a.put op.dst (.slice A' (n + 1) cap')) w') :
    if Region.wanted op (yielded ops a.tmps) = true then Oper.wp P op a w K Q else E :=
  step_app1 ht hinfo hzs hgd ho n c hsv hxv hn o s hb hK (Hp.none_sub _) (Hp.apart_none _) hm hby fun A' cap' w' h' h1 h2 => H A' cap' w' h' h1 h2.flat
/-- append of a whole slice of flat elements. -/
theorem wpList_appF {ops : Array Oper} {rest : List Oper} {op : Oper} {a : Act} {Q : Exit → Act → World → Prop} {sx xx : Operand} {t e : TypeId} {z : Value} {bytes cb : Nat}
    (ht : P.underlying t = some (.slice e)) (hinfo : Info P e z k.size bytes) (hzs : z.cells.size = k.size) (hgd : Region.wanted op (yielded ops a.tmps) = true)
    (ho : op.op = .call { callee := .builtin .append, args := #[sx, xx], argTypes := #[t, t] }) (n m c : Nat) (hsv : a.eval sx = .slice A n cap) (hxv : a.eval xx = .slice B m c)
    (hn : xs.length = n) (hm' : ys.length = m) (f : k.Flat) (o : Ow k h A cap xs) (s : h.sub w) (sy : Sl k hx B cb ys) (sx' : hx.sub w)
    (hm : n + m ≤ 1000000000) (hby : bytes ≤ 1000)
    (H : ∀ A' cap' w' h', Ow k h' A' cap' (xs ++ ys) → Upd h h' w w' → wpList P ops Q rest (a.put op.dst (.slice A' (n + m) cap')) w') : wpList P ops Q (op :: rest) a w := by
  unfold Info at hinfo
  obtain ⟨i, hi, hz0, hz1, hz2⟩ := info_parts hinfo
  refine wpList_append_g hgd sx xx t ho e i z ht hi hz0 hz1 hzs bytes hz2 n m c hn hm' hsv hxv o s ((sy.src sx').flat f Hp.none) (Hp.none_sub _) (Hp.apart_none _) (by unfold maxLen; omega) ?_ (fun A' cap' w' h' h1 h2 => H A' cap' w' h' h1 h2.flat)
  have : (n + m) * bytes ≤ 1000000000 * 1000 := Nat.mul_le_mul hm hby
  omega
/-- append(s[:0:0], s...): a copy in new memory. -/
theorem wpList_clone {ops : Array Oper} {rest : List Oper} {op : Oper} {a : Act} {Q : Exit → Act → World → Prop} {sx xx : Operand} {t e : TypeId} {z : Value} {bytes : Nat}
    (ht : P.underlying t = some (.slice e)) (hinfo : Info P e z k.size bytes) (hzs : z.cells.size = k.size) (hgd : Region.wanted op (yielded ops a.tmps) = true)
    (ho : op.op = .call { callee := .builtin .append, args := #[sx, xx], argTypes := #[t, t] }) (n c : Nat) (hsv : a.eval sx = .slice B 0 0) (hxv : a.eval xx = .slice A n c)
    (hn : xs.length = n) (f : k.Flat) (o : Sl k h A cap xs) (s : h.sub w) (hm : n ≤ 1000000000) (hby : bytes ≤ 1000)
    (H : ∀ A' cap' w' h', Ow k h' A' cap' xs → Upd Hp.none h' w w' → wpList P ops Q rest (a.put op.dst (.slice A' n cap')) w') : wpList P ops Q (op :: rest) a w := by
  unfold Info at hinfo
  obtain ⟨i, hi, hz0, hz1, hz2⟩ := info_parts hinfo
  refine wpList_append_g hgd sx xx t ho e i z ht hi hz0 hz1 hzs bytes hz2 0 n c rfl hn hsv hxv (Ow.zero k Hp.none B) (Hp.none_sub _) ((o.src s).flat f Hp.none) (Hp.none_sub _) (Hp.apart_none _) (by unfold maxLen; omega) ?_ ?_
  · have : (0 + n) * bytes ≤ 1000000000 * 1000 := Nat.mul_le_mul (by omega) hby
    omega
  · intro A' cap' w' h' h1 h2
    rw [Nat.zero_add]
    exact H A' cap' w' h' h1 h2.flat
end
/-- A pointer's block, wholly h's: a struct of the kind k. -/
def Pt {α : Type} (k : Kd α) (T : TypeId) (h : Hp) (b : Nat) (x : α) : Prop := ∃ cs : List Value, h b = some (.cells cs.toArray T (0, 0)) ∧ k.K (h.del b) x cs
section
variable {α : Type} {k : Kd α} {h : Hp} {T : TypeId} {b : Nat} {x : α} {w : World}
theorem Pt.block (p : Pt k T h b x) (s : h.sub w) : ∃ cs : List Value, w.heap[b]? = some (.cells cs.toArray T (0, 0)) ∧ k.K (h.del b) x cs := by
  obtain ⟨cs, h1, h2⟩ := p; exact ⟨cs, s b _ h1, h2⟩
theorem Hp.sub.del {h : Hp} {w : World} (s : h.sub w) (b : Nat) : (h.del b).sub w := s.le (Hp.del_le h b)
theorem Hp.put_sub {h : Hp} {b : Nat} {o : Obj} {w : World} (s : h.sub w) (e : w.heap[b]? = some o) : (h.put b o).sub w := fun q o' e' => by
  simp only [Hp.put] at e'
  split at e'
  · rename_i hq; cases e'; rw [hq]; exact e
  · exact s q o' e'
theorem Hp.put_del {h : Hp} {b : Nat} {o : Obj} (e : h b = Option.none) : (h.put b o).del b = h := by
  funext q; simp only [Hp.del, Hp.put]; split
  · rename_i hq; rw [hq, e]
  · rfl
theorem Hp.put_self {h : Hp} {b : Nat} {o : Obj} : (h.put b o) b = some o := if_pos rfl
theorem Hp.del_self {h : Hp} {b : Nat} : (h.del b) b = Option.none := if_pos rfl
/-- A new block beside what is there. -/
theorem Pt.new {cs : List Value} {x : α} (n : h b = Option.none) (hK : k.K h x cs) : Pt k T (h.put b (.cells cs.toArray T)) b x :=
  ⟨cs, Hp.put_self, by rw [Hp.put_del n]; exact hK⟩
/-- What was made before, eaten by a change. -/
theorem Upd.eat {hx hl hl' : Hp} {w0 w1 : World} (u : Upd Hp.none hx w w0) (v : Upd (hl.or hx) hl' w0 w1) : Upd hl hl' w w1 :=
  ⟨v.os.trans u.os, v.tape.trans u.tape, v.output.trans u.output, Nat.le_trans u.size v.size,
    fun q hq hn => (v.keep q (Nat.lt_of_lt_of_le hq u.size) (by simp [Hp.or, hn, u.new_none hq])).trans (u.keep q hq rfl), v.sub, fun q hq => by
      rcases v.dom q hq with h1 | h1
      · by_cases hn : hl q = .none
        · simp only [Hp.or, hn, Option.none_or] at h1
          rcases u.dom q h1 with h2 | h2
          · exact absurd rfl h2
          · exact .inr h2
        · exact .inl hn
      · exact .inr (Nat.le_trans u.size h1)⟩
/-- A block of the part is stored into, behind a change of the rest. -/
theorem Upd.field {hr r' : Hp} {w1 : World} {cs : List Value} {v : Value} (j : Nat) (hb : h b = some (.cells cs.toArray T (0, 0))) (s : h.sub w) (hr' : hr.le (h.del b)) (u : Upd hr r' w w1) :
    Upd h (r'.put b (.cells (cs.set j v).toArray T (0, 0))) w (w1.setCell ⟨b, j, .none⟩ v) ∧ r' b = .none := by
  have hbw := s b _ hb
  have hlt := s.lt (b := b) (by simp [hb])
  have hrn : hr b = .none := by
    cases hh : hr b with
    | none => rfl
    | some o => have := hr' b o hh; simp [Hp.del] at this
  have hb1 : w1.heap[b]? = some (.cells cs.toArray T (0, 0)) := (u.keep b hlt hrn).trans hbw
  have e1 : w1.setCell ⟨b, j, .none⟩ v = w1.setRow b (cs.toArray.setIfInBounds j v) := setCell_eq_setRow w1 b _ _ T (0, 0) v hb1
  have e2 : cs.toArray.setIfInBounds j v = (cs.set j v).toArray := by simp
  have hr0 : r' b = .none := by
    cases hh : r' b with
    | none => rfl
    | some o =>
      rcases u.dom b (by simp [hh]) with h1 | h1
      · exact absurd hrn h1
      · omega
  rw [e1, e2]
  refine ⟨⟨u.os, u.tape, u.output, by simpa using u.size, fun q hq hn => ?_, ?_, fun q hq => ?_⟩, hr0⟩
  · have hqb : q ≠ b := fun e => by rw [e, hb] at hn; cases hn
    rw [setRow_other w1 b q _ hqb]
    refine u.keep q hq ?_
    cases hh : hr q with
    | none => rfl
    | some o => have := Hp.del_le h b q o (hr' q o hh); rw [hn] at this; cases this
  · intro q o2 e2
    simp only [Hp.put] at e2
    split at e2
    · rename_i hq; cases e2; rw [hq]; exact setRow_heap w1 b _ _ T _ hb1
    · rename_i hq; rw [setRow_other w1 b q _ hq]; exact u.sub q o2 e2
  · simp only [Hp.put] at hq
    split at hq
    · rename_i hq2; left; rw [hq2, hb]; simp
    · rcases u.dom q hq with h1 | h1
      · left
        cases hh : hr q with
        | none => exact absurd hh h1
        | some o => rw [Hp.del_le h b q o (hr' q o hh)]; simp
      · exact .inr h1
end
/-- All that stood below reads as it did. -/
theorem bcell {W w1 : World} (hb : Below W.heap.size W w1) : (∀ b o, b < W.heap.size → w1.cell? ⟨b, o, .none⟩ = W.cell? ⟨b, o, .none⟩) ∧ (∀ b o, b < W.heap.size → w1.frozen? ⟨b, o, .none⟩ = W.frozen? ⟨b, o, .none⟩) :=
  ⟨fun b o h => hb.cell (p := ⟨b, o, .none⟩) h, fun b o h => hb.frozen (p := ⟨b, o, .none⟩) h⟩
/-- A store into a block of the call's own that is not told. -/
theorem Upd.setNew {h h' : Hp} {w w1 : World} {b j : Nat} {v : Value} (u : Upd h h' w w1) (hb : w.heap.size ≤ b) (hn : h' b = .none) : Upd h h' w (w1.setCell ⟨b, j, .none⟩ v) := by
  have B : ∀ q, q ≠ b → (w1.setCell ⟨b, j, .none⟩ v).heap[q]? = w1.heap[q]? := fun q hq => Below.heap_setCell w1 ⟨b, j, .none⟩ v q hq
  have S : (w1.setCell ⟨b, j, .none⟩ v).heap.size = w1.heap.size := by simp
  have G : Below b w1 (w1.setCell ⟨b, j, .none⟩ v) := (Below.refl b w1).setCell (Nat.le_refl _) v
  refine ⟨G.os.trans u.os, G.tape.trans u.tape, G.output.trans u.output, by rw [S]; exact u.size, fun q hq hn => ?_, fun q o e => ?_, u.dom⟩
  · rw [B q (by omega)]; exact u.keep q hq hn
  · rw [B q (fun e2 => by rw [e2, hn] at e; cases e)]; exact u.sub q o e
theorem Upd.frozen {h h' : Hp} {w w' : World} (u : Upd h h' w w') {p : Addr} (hp : p.block < w.heap.size) (hn : h p.block = .none) : w'.frozen? p = w.frozen? p :=
  World.frozen?_of_block (w := w) (u.keep p.block hp hn)
theorem frozen_alloc {w : World} {o : Obj} {b n : Nat} (h : b < w.heap.size) : (w.alloc o).frozen? ⟨b, n, .none⟩ = w.frozen? ⟨b, n, .none⟩ := ((Below.refl _ _).alloc (Nat.le_refl _) o).frozen h
theorem cell_alloc {w : World} {o : Obj} {b n : Nat} (h : b < w.heap.size) : (w.alloc o).cell? ⟨b, n, .none⟩ = w.cell? ⟨b, n, .none⟩ := ((Below.refl _ _).alloc (Nat.le_refl _) o).cell h
theorem cell_new {w : World} {cs : Array Value} {T : TypeId} {b i : Nat} (hb : b = w.heap.size) : (w.alloc (.cells cs T)).cell? ⟨b, i, .none⟩ = cs[i]? := cell_of_row _ b i cs T (0, 0) (heap_new_at hb)
end Go.Sl
end
section
/- The memory that a body holds: parts of its own, apart from each other, all made since it began. No program is named here. -/
namespace Go.Sl
open Go Go.RowKit
/-- Of the world w0 nothing has turned; the parts l were made since, and are apart. -/
structure Env (w0 w : World) (l : List Hp) : Prop where
  own : Own w l
  fr : ∀ h ∈ l, ∀ q, h q ≠ Option.none → w0.heap.size ≤ q
  low : Below w0.heap.size w0 w
section
variable {w0 w w1 : World} {l : List Hp} {h h' : Hp}
theorem Env.start (w : World) : Env w w [] := ⟨trivial, fun _ e => absurd e (by simp), Below.refl _ _⟩
theorem Env.below (E : Env w0 w l) (b : Below w.heap.size w w1) : Env w0 w1 l := ⟨E.own.below b, E.fr, E.low.trans (b.mono E.low.size)⟩
theorem Own.snoc {w : World} {h' : Hp} (s : h'.sub w) : ∀ {l : List Hp}, Own w l → (∀ k ∈ l, k.apart h') → Own w (l ++ [h'])
  | [], _, _ => ⟨s, fun _ e => absurd e (by simp), trivial⟩
  | k :: l, o, a => ⟨o.1, fun q hq => by
      rcases List.mem_append.1 hq with hq | hq
      · exact o.2.1 q hq
      · simp at hq; subst hq; exact a k (by simp), o.2.2.snoc s fun q hq => a q (by simp [hq])⟩
theorem Env.new (E : Env w0 w l) (u : Upd Hp.none h' w w1) : Env w0 w1 (l ++ [h']) :=
  ⟨(E.own.below u.below).snoc u.sub fun k hk => (u.apart (fun _ e => absurd rfl e) (E.own.mem k hk)).symm, fun k hk q hq => by
    rcases List.mem_append.1 hk with hk | hk
    · exact E.fr k hk q hq
    · simp at hk; subst hk
      rcases u.dom q hq with e | e
      · exact absurd rfl e
      · exact Nat.le_trans E.low.size e, E.low.trans (u.below.mono E.low.size)⟩
theorem Env.upd (E : Env w0 w l) (i : Nat) (hi : l[i]? = some h) (u : Upd h h' w w1) : Env w0 w1 (l.set i h') :=
  ⟨E.own.upd u i hi, fun k hk q hq => by
    rcases List.mem_or_eq_of_mem_set hk with hk | rfl
    · exact E.fr k hk q hq
    · rcases u.dom q hq with e | e
      · exact E.fr h (List.mem_of_getElem? hi) q e
      · exact Nat.le_trans E.low.size e,
   ⟨u.os.trans E.low.os, u.tape.trans E.low.tape, u.output.trans E.low.output, Nat.le_trans E.low.size u.size, fun q hq => by
    refine (u.keep q (Nat.lt_of_lt_of_le hq E.low.size) ?_).trans (E.low.block q hq)
    cases hh : h q with
    | none => rfl
    | some o => have := E.fr h (List.mem_of_getElem? hi) q (by simp [hh]); omega⟩⟩
theorem Env.sub (E : Env w0 w l) (i : Nat) (hi : l[i]? = some h) : h.sub w := E.own.get i h hi
theorem Env.drop (E : Env w0 w l) (i : Nat) : Env w0 w (l.eraseIdx i) := ⟨E.own.erase i, fun k hk => E.fr k (List.mem_of_mem_eraseIdx hk), E.low⟩
theorem Env.arg (E : Env w0 w l) {k : Hp} (s : k.sub w0) : k.sub w := s.of_below E.low
/-- A new block. -/
theorem Upd.newBlock (w : World) (o : Obj) : Upd Hp.none (Hp.one w.heap.size o) w (w.alloc o) :=
  ⟨rfl, rfl, rfl, by simp, fun q hq _ => heap_old_at hq, Hp.one_sub (heap_new_at rfl), fun q hq => by
    right
    simp only [Hp.one] at hq
    split at hq
    · omega
    · exact absurd rfl hq⟩
theorem Hp.sub.free {h : Hp} {w : World} (s : h.sub w) {b : Nat} (hb : w.heap.size ≤ b) : h b = Option.none := by
  cases hh : h b with
  | none => rfl
  | some o => have := s.lt (b := b) (by simp [hh]); omega
/-- A new block that holds what was made before. -/
theorem Upd.put {o : Obj} (u : Upd Hp.none h' w w1) : Upd Hp.none (h'.put w1.heap.size o) w (w1.alloc o) :=
  ⟨u.os, u.tape, u.output, by simp; exact Nat.le_trans u.size (Nat.le_succ _), fun q hq hn => (heap_old_at (Nat.lt_of_lt_of_le hq u.size)).trans (u.keep q hq hn), Hp.put_sub (u.sub.of_below ((Below.refl _ _).alloc (Nat.le_refl _) _)) (heap_new_at rfl), fun q hq => by
    simp only [Hp.put] at hq
    split at hq
    · right; have := u.size; omega
    · exact u.dom q hq⟩
theorem Env.alloc (E : Env w0 w l) (o : Obj) : Env w0 (w.alloc o) (l ++ [Hp.one w.heap.size o]) := E.new (Upd.newBlock w o)
theorem Env.drew (E : Env w0 w l) : Env w0 w.drew l := E.below ((Below.refl _ _).drew)
theorem Env.drewN (E : Env w0 w l) (n : Nat) : Env w0 (w.drewN n) l := E.below ⟨rfl, rfl, rfl, Nat.le_refl _, fun _ _ => rfl⟩
theorem Env.alloc' (E : Env w0 w l) (o : Obj) : Env w0 (w.alloc o) l := E.below ((Below.refl _ _).alloc (Nat.le_refl _) o)
theorem flatMap_len {α : Type} {size : Nat} {cells : α → List Value} (hl : ∀ x, (cells x).length = size) : ∀ xs : List α, (xs.flatMap cells).length = xs.length * size
  | [] => by simp
  | y :: ys => by simp only [List.flatMap_cons, List.length_append, hl, flatMap_len hl ys, List.length_cons, Nat.add_mul, Nat.one_mul]; omega
/-- A literal of flat elements in a new block, owned. -/
theorem Ow.lit {α : Type} {size : Nat} {cells : α → List Value} {pos : 0 < size} {hl : ∀ x, (cells x).length = size} {h1 : ∀ x, ∀ u ∈ cells x, u.oneCell' = true} {h : Hp} {b : Nat} {t : TypeId} {xs : List α}
    (hb : h b = some (.cells (xs.flatMap cells).toArray t (0, 0))) (hm : xs.length ≤ maxLen) : Ow (Kd.flat size cells pos hl h1) h (some ⟨b, 0, .none⟩) xs.length xs :=
  ⟨Nat.le_refl _, hm, (fun e => (nomatch e)), fun ad e _ => by
    cases e
    refine ⟨b, 0, _, t, rfl, hb, ?_, fun i x hx => ⟨cells x, rfl, fun j u hu => ?_⟩⟩
    · have := flatMap_len hl xs
      simp only [Kd.flat, List.size_toArray, this]; omega
    · rw [Nat.zero_add, List.getElem?_toArray]; exact flatMap_get hl xs i x hx j u hu⟩
/-- The rest of a part turns, one block stands. -/
theorem Upd.rest {k' : Hp} {b : Nat} {o : Obj} (hb : h b = some o) (s : h.sub w) (u : Upd (h.del b) k' w w1) : Upd h (k'.put b o) w w1 ∧ k' b = .none := by
  have hlt := s.lt (b := b) (by simp [hb])
  have hk : k' b = .none := by
    cases hh : k' b with
    | none => rfl
    | some q =>
      rcases u.dom b (by simp [hh]) with e | e
      · exact absurd Hp.del_self e
      · omega
  refine ⟨⟨u.os, u.tape, u.output, u.size, fun q hq hn => u.keep q hq (by simp [Hp.del, hn]), fun q o' e => ?_, fun q e => ?_⟩, hk⟩
  · simp only [Hp.put] at e
    split at e
    · rename_i hq; cases e; rw [hq]; exact (u.keep b hlt Hp.del_self).trans (s b _ hb)
    · exact u.sub q o' e
  · simp only [Hp.put] at e
    split at e
    · rename_i hq; left; rw [hq, hb]; simp
    · rcases u.dom q e with h1 | h1
      · left; intro h0; exact h1 (by simp [Hp.del, h0])
      · exact .inr h1
theorem Own.apart_of {w : World} : ∀ {l : List Hp}, Own w l → ∀ {i j : Nat} {h k : Hp}, l[i]? = some h → l[j]? = some k → i ≠ j → h.apart k
  | [], _, i, j, h, k, e, _, _ => by simp at e
  | a :: l, o, 0, 0, h, k, _, _, n => absurd rfl n
  | a :: l, o, 0, j + 1, h, k, e1, e2, _ => by simp at e1 e2; subst e1; exact o.2.1 k (List.mem_of_getElem? e2)
  | a :: l, o, i + 1, 0, h, k, e1, e2, _ => by simp at e1 e2; subst e2; exact (o.2.1 h (List.mem_of_getElem? e1)).symm
  | a :: l, o, i + 1, j + 1, h, k, e1, e2, n => o.2.2.apart_of (i := i) (j := j) (by simpa using e1) (by simpa using e2) (by omega)
/-- A part is written into, and not told any more. -/
theorem Env.scratch (E : Env w0 w l) (i : Nat) (hi : l[i]? = some h) {b j : Nat} {v : Value} (hb : h b ≠ .none) : Env w0 (w.setCell ⟨b, j, .none⟩ v) (l.eraseIdx i) := by
  have D := E.drop i
  have hB : w0.heap.size ≤ b := E.fr h (List.mem_of_getElem? hi) b hb
  have hn : ∀ k ∈ l.eraseIdx i, k b = .none := fun k hk => by
    obtain ⟨m, hm⟩ := List.mem_iff_getElem?.1 hk
    rw [List.getElem?_eraseIdx] at hm
    split at hm
    · exact E.own.apart_of hi hm (by omega) b hb
    · exact E.own.apart_of hi hm (by omega) b hb
  have G : Below b w (w.setCell ⟨b, j, .none⟩ v) := (Below.refl b w).setCell (Nat.le_refl _) v
  have S : (w.setCell ⟨b, j, .none⟩ v).heap.size = w.heap.size := by simp
  refine ⟨?_, D.fr, D.low.setCell hB v⟩
  have key : ∀ l : List Hp, Own w l → (∀ k ∈ l, k b = .none) → Own (w.setCell ⟨b, j, .none⟩ v) l := by
    intro l
    induction l with
    | nil => exact fun _ _ => trivial
    | cons k l ih =>
      intro o hk
      refine ⟨fun q o' e => ?_, o.2.1, ih o.2.2 fun x hx => hk x (by simp [hx])⟩
      rw [Below.heap_setCell w ⟨b, j, .none⟩ v q (fun hq => by have := hk k (by simp); rw [show q = b from hq, this] at e; cases e)]
      exact o.1 q o' e
  exact key _ D.own hn
end
end Go.Sl
end
section
/- What the shelf's sort of structs does to an owned slice. No program is named here. -/
namespace Go.Sl
open Go Go.RowKit Go.Sort Go.Proofs
section
variable {α : Type} [Inhabited α] {size : Nat} {cells : α → List Value} {pos : 0 < size} {hl : ∀ x, (cells x).length = size} {h1 : ∀ x, ∀ u ∈ cells x, u.oneCell' = true} {h : Hp} {b off cap : Nat} {xs : List α} {w : World}
theorem Ow.holds (o : Ow (Kd.flat size cells pos hl h1) h (some ⟨b, off, .none⟩) cap xs) (s : h.sub w) (hc : 0 < xs.length) : HoldsK cells size w b off xs.toArray := by
  obtain ⟨b', off', cur, E, e, hb, hsz, hrow⟩ := o.row _ rfl (by have := o.le; omega)
  cases e
  have hbw := s b _ hb
  intro t ht
  have ht' : t < xs.length * size := by simpa [size_flatK] using ht
  have hq : t / size < xs.length := (Nat.div_lt_iff_lt_mul pos).2 ht'
  have hm : t % size < size := Nat.mod_lt _ pos
  obtain ⟨cs, hK, hcs⟩ := hrow (t / size) xs[t / size] (by simp [hq])
  have hK' : cs = cells xs[t / size] := hK
  subst hK'
  have hu := hcs (t % size) _ (List.getElem?_eq_getElem (by rw [hl]; exact hm))
  have e2 : off + t / size * size + t % size = off + t := by
    have := Nat.div_add_mod t size
    rw [Nat.mul_comm] at this; omega
  simp only [Kd.flat] at hu
  rw [e2] at hu
  refine ⟨?_, frozen_of_row w b _ cur E hbw⟩
  rw [cell_of_row w b _ cur E (0, 0) hbw, hu, get_flatK _ _ _ t (by simpa using ht')]
  simp only [id]
  have e3 : xs.toArray[t / size]! = xs[t / size] := by simp [hq]
  rw [e3, getElem!_pos _ _ (by rw [hl]; exact hm)]
theorem Ow.sorted (o : Ow (Kd.flat size cells pos hl h1) h (some ⟨b, off, .none⟩) cap xs) (s : h.sub w) (hc : 0 < xs.length) {w' : World} {n : Nat} {d : Array α} {os : Array Obj} (hd : d.size = xs.length) (hw : w' = sortWorldK cells size w b off n d os) :
    ∃ h', Ow (Kd.flat size cells pos hl h1) h' (some ⟨b, off, .none⟩) cap d.toList ∧ Upd h h' w w' := by
  obtain ⟨b', off', cur, E, e, hb, hsz, _⟩ := o.row _ rfl (by have := o.le; omega)
  cases e
  have hbw := s b _ hb
  have hlt := s.lt (b := b) (by simp [hb])
  have hle := o.le
  have hsz' : off + cap * size ≤ cur.size := hsz
  have hfit : xs.length * size ≤ cap * size := Nat.mul_le_mul_right _ hle
  have hblock : ∀ q, q < w.heap.size → w'.heap[q]? = if q = b then some (.cells (putCells id off (flatK cells size d) cur) E (0, 0)) else w.heap[q]? := by
    intro q hq
    subst hw
    show (((w.heap.modify b (onCells (putCells id off (flatK cells size d)))) ++ os)[q]?) = _
    rw [Array.getElem?_append, if_pos (by simpa using hq), Array.getElem?_modify]
    by_cases e : b = q
    · subst e
      rw [if_pos rfl, if_pos rfl, hbw]; rfl
    · rw [if_neg e, if_neg (fun h => e h.symm)]
  refine ⟨h.put b (.cells (putCells id off (flatK cells size d) cur) E), ⟨by simpa [hd] using hle, o.max, o.nil, fun ad e _ => ?_⟩, ?_⟩
  · cases e
    refine ⟨b, off, _, E, rfl, Hp.put_self, by simpa [putCells] using hsz, fun i x hx => ⟨cells x, rfl, fun j u hu => ?_⟩⟩
    have hi : i < d.size := by simpa using (List.getElem?_eq_some_iff.1 hx).1
    have hj : j < size := by rw [← hl x]; exact (List.getElem?_eq_some_iff.1 hu).1
    have ht : i * size + j < d.size * size := by
      have := Nat.mul_le_mul_right size (show i + 1 ≤ d.size from hi); rw [Nat.add_mul, Nat.one_mul] at this; omega
    have e1 : (i * size + j) / size = i := by rw [Nat.mul_comm, Nat.mul_add_div pos, Nat.div_eq_of_lt hj, Nat.add_zero]
    have e2 : (i * size + j) % size = j := by rw [Nat.mul_comm, Nat.mul_add_mod, Nat.mod_eq_of_lt hj]
    have hds : d.size * size = xs.length * size := by rw [hd]
    simp only [Kd.flat, putCells, Array.getElem?_mapIdx]
    rw [Array.getElem?_eq_getElem (by omega)]
    simp only [Option.map_some, size_flatK]
    rw [if_pos (by omega)]
    have e4 : off + i * size + j - off = i * size + j := by omega
    have e5 : d[i]! = x := by
      have h2 := (List.getElem?_eq_some_iff.1 hx).2
      rw [getElem!_pos d i hi]; simpa using h2
    have hu2 := List.getElem?_eq_some_iff.1 hu
    rw [e4, get_flatK _ _ _ _ ht, e1, e2, e5, getElem!_pos _ _ (by rw [hl]; exact hj), hu2.2]; rfl
  · refine ⟨by subst hw; rfl, by subst hw; rfl, by subst hw; rfl, ?_, fun q hq hn => ?_, fun q o2 e2 => ?_, fun q hq => ?_⟩
    · subst hw
      show w.heap.size ≤ ((w.heap.modify b _) ++ os).size
      simp
    · rw [hblock q hq, if_neg (fun e => by rw [e, hb] at hn; cases hn)]
    · simp only [Hp.put] at e2
      split at e2
      · rename_i hq; cases e2; rw [hq, hblock b hlt, if_pos rfl]
      · rename_i hq
        rw [hblock q (s.lt (by simp [e2])), if_neg hq]; exact s q o2 e2
    · left
      simp only [Hp.put] at hq
      split at hq
      · rename_i h2; rw [h2, hb]; simp
      · exact hq
end
/-- A rising list's strict weak order. -/
theorem swo_ord {κ α : Type} (o : Ord κ) (key : α → κ) (lt : α → α → Bool) (h : ∀ x y, lt x y = o.lt (key x) (key y)) : SWO lt where
  irrefl x := by rw [h, o.irrefl]
  trans x y z a b := by rw [h] at *; exact o.trans _ _ _ a b
  ntrans x y z a b := by
    rw [h] at *
    rcases o.tri (key x) (key y) with e | e | e
    · rw [a] at e; cases e
    · rw [e]; exact b
    · rcases o.tri (key y) (key z) with f | f | f
      · rw [b] at f; cases f
      · rw [← f]; exact a
      · exact o.asymm (o.trans _ _ _ f e)
/-- What a list of keys, each once, is when sorted. -/
def isort {κ α : Type} [DecidableEq κ] (o : Ord κ) (key : α → κ) (l : List α) : List α := l.foldr (fun x acc => put o key x acc) []
section
variable {κ α : Type} [DecidableEq κ] {o : Ord κ} {key : α → κ}
theorem isort_rising (l : List α) : Rising o key (isort o key l) := by
  induction l with
  | nil => exact List.Pairwise.nil
  | cons x l ih => exact ih.put o key x
theorem mem_isort {l : List α} (h : l.Pairwise fun x y => key x ≠ key y) {z : α} : z ∈ isort o key l ↔ z ∈ l := by
  induction l with
  | nil => simp [isort]
  | cons x l ih =>
    obtain ⟨a, b⟩ := List.pairwise_cons.1 h
    show z ∈ put o key x (isort o key l) ↔ _
    rw [mem_put, ih b, List.mem_cons]
    constructor
    · rintro (e | ⟨e, _⟩)
      · exact .inl e
      · exact .inr e
    · rintro (e | e)
      · exact .inl e
      · exact .inr ⟨e, fun e2 => a z e e2.symm⟩
theorem isort_of [Inhabited α] {l : List α} (hn : l.Pairwise fun x y => key x ≠ key y) {lt : α → α → Bool} (hlt : ∀ x y, lt x y = o.lt (key x) (key y)) {d : Array α} (hp : PermIn 0 l.length l.toArray d) (hs : SortedIn lt 0 l.length d) : d.toList = isort o key l := by
  obtain ⟨h1, _, h3⟩ := hp
  have h1' : d.size = l.length := by simpa using h1
  have hperm : d.toList.Perm l := by
    have e1 : (d.extract 0 l.length).toList = d.toList := by rw [← h1']; simp
    have e2 : (l.toArray.extract 0 l.length).toList = l := by simp
    rwa [e1, e2] at h3
  refine Rising.ext o key (Rising.of_sorted ?_ ?_) (isort_rising l) fun z => by rw [mem_isort hn]; exact hperm.mem_iff
  · rw [List.pairwise_iff_getElem]
    intro i j hi hj hij
    have hi' : i < d.size := by simpa using hi
    have hj' : j < d.size := by simpa using hj
    have := hs i j (Nat.zero_le _) hij (by omega)
    rw [getElem!_pos d i hi', getElem!_pos d j hj', hlt] at this
    simpa using this
  · exact hperm.symm.pairwise hn fun h => h.symm
end
end Go.Sl
end
section
/- Where a predicate first holds. No program is named here. -/
namespace Go.Sl
/-- Where a predicate first holds; -1: nowhere. -/
def idx {α : Type} (p : α → Bool) (xs : List α) : Int := if xs.any p then (xs.findIdx p : Nat) else -1
theorem idx_any {α : Type} (p : α → Bool) (xs : List α) : decide (0 ≤ idx p xs) = xs.any p := by
  unfold idx; split <;> rename_i h <;> simp [h]
theorem idx_hit {α : Type} {p : α → Bool} {xs : List α} {j : Nat} {x : α} (h : ∀ y ∈ xs.take j, p y = false) (hx : xs[j]? = some x) (hp : p x = true) : idx p xs = j := by
  have hj := (List.getElem?_eq_some_iff.1 hx)
  have ha : xs.any p = true := List.any_eq_true.2 ⟨x, List.mem_of_getElem? hx, hp⟩
  simp only [idx, ha, if_true]
  congr 1
  refine (List.findIdx_eq hj.1).2 ⟨by rw [hj.2]; exact hp, fun i hi => ?_⟩
  have hil : i < xs.length := by have := hj.1; omega
  have := h xs[i] (by rw [List.mem_take_iff_getElem]; exact ⟨i, by omega, rfl⟩)
  simpa using this
theorem idx_miss {α : Type} {p : α → Bool} {xs : List α} (h : ∀ y ∈ xs, p y = false) : idx p xs = -1 := by
  have : xs.any p = false := by rw [List.any_eq_false]; intro y hy; simp [h y hy]
  simp [idx, this]
end Go.Sl
end
section
/- Profit that is still in the group, plain. -/
namespace Go.Sl
open Go Go.RowKit
def noS (b : ByteArray) : Bool := b.toList.isEmpty
def hasP (l : List SPair) (s b : ByteArray) : Int := match find pkey (s, b) l with | some r => r.amt | none => 0
def isP (s b : ByteArray) (x : SPair) : Bool := decide (x.s = s ∧ x.b = b)
def nextP (l : List SPair) (s b : ByteArray) (v : Int) : List SPair := (l.filter fun x => !isP s b x) ++ (if v = 0 then [] else [⟨s, b, v⟩])
def addE (l : List SPair) (s b : ByteArray) (n : Int) : Int :=
  if (noS s || (noS b || (decide (s = b) || !money n))) = true then 1
  else if (decide (hasP l s b + n < 0) || !money (hasP l s b + n)) = true then 6
  else if 8 < (nextP l s b (hasP l s b + n)).length then 5 else 0
def addW (l : List SPair) (s b : ByteArray) (n : Int) : List SPair := if addE l s b n = 0 then isort ordStr2 pkey (nextP l s b (hasP l s b + n)) else l
/-- What holds of all. -/
structure GoodP (l : List SPair) : Prop where
  rise : Rising ordStr2 pkey l
  amt : ∀ x ∈ l, 1 ≤ x.amt ∧ x.amt ≤ 100000000000
  len : l.length ≤ 8
theorem GoodP.nil : GoodP [] := ⟨List.Pairwise.nil, by simp, by simp⟩
theorem filter_isP (l : List SPair) (s b : ByteArray) : (l.filter fun x => !isP s b x) = del pkey (s, b) l := by
  unfold del
  congr 1; funext x
  simp [isP, pkey]
theorem nextP_dist {l : List SPair} (h : Rising ordStr2 pkey l) (s b : ByteArray) (v : Int) : (nextP l s b v).Pairwise fun x y => pkey x ≠ pkey y := by
  unfold nextP
  rw [filter_isP]
  refine List.pairwise_append.2 ⟨(h.del ordStr2 pkey _).imp fun e => ordStr2.ne e, by split <;> simp, fun x hx y hy => ?_⟩
  split at hy
  · cases hy
  · simp at hy; subst hy
    exact (mem_del pkey |>.1 hx).2
theorem nextP_put {l : List SPair} (h : Rising ordStr2 pkey l) (s b : ByteArray) (v : Int) : isort ordStr2 pkey (nextP l s b v) = if v = 0 then del pkey (s, b) l else put ordStr2 pkey ⟨s, b, v⟩ l := by
  refine Rising.ext ordStr2 pkey (isort_rising _) ?_ fun x => ?_
  · split
    · exact h.del _ _ _
    · exact h.put _ _ _
  · rw [mem_isort (nextP_dist h s b v)]
    unfold nextP
    rw [filter_isP, List.mem_append]
    split
    · simp
    · rw [mem_put, mem_del]
      simp only [List.mem_singleton]
      constructor
      · rintro (h | h)
        · exact .inr h
        · exact .inl h
      · rintro (h | h)
        · exact .inr h
        · exact .inl h
theorem hasP_bd {l : List SPair} (g : GoodP l) (s b : ByteArray) : 0 ≤ hasP l s b ∧ hasP l s b ≤ 100000000000 := by
  unfold hasP
  split
  · rename_i r hr
    have := g.amt r (find_some hr).1; omega
  · omega
theorem addE_ok {l : List SPair} {s b : ByteArray} {n : Int} (h : addE l s b n = 0) : 0 ≤ hasP l s b + n ∧ hasP l s b + n ≤ 100000000000 ∧ (nextP l s b (hasP l s b + n)).length ≤ 8 := by
  unfold addE at h
  split at h
  · cases h
  · split at h
    · cases h
    · split at h
      · cases h
      · rename_i h1 h2 h3
        simp [money] at h2
        omega
theorem isort_length {l : List SPair} (h : l.Pairwise fun x y => pkey x ≠ pkey y) : (isort ordStr2 pkey l).length = l.length := by
  induction l with
  | nil => rfl
  | cons x l ih =>
    obtain ⟨h1, h2⟩ := List.pairwise_cons.1 h
    show (put ordStr2 pkey x (isort ordStr2 pkey l)).length = _
    have hn : find pkey (pkey x) (isort ordStr2 pkey l) = none := by
      unfold find; rw [List.find?_eq_none]; intro y hy
      have := h1 y ((mem_isort h2).1 hy)
      simpa using this.symm
    rw [len_put x (isort_rising l), del_none hn, ih h2]; rfl
theorem GoodP.add {l : List SPair} (g : GoodP l) (s b : ByteArray) (n : Int) : GoodP (addW l s b n) := by
  unfold addW
  split
  · rename_i h
    obtain ⟨h1, h2, h3⟩ := addE_ok h
    have hd := nextP_dist g.rise s b (hasP l s b + n)
    refine ⟨isort_rising _, fun x hx => ?_, by rw [isort_length hd]; exact h3⟩
    have hx := (mem_isort hd).1 hx
    unfold nextP at hx
    rcases List.mem_append.1 hx with hx | hx
    · exact g.amt x (List.mem_filter.1 hx).1
    · split at hx
      · cases hx
      · simp at hx; subst hx; show 1 ≤ hasP l s b + n ∧ hasP l s b + n ≤ 100000000000; omega
  · exact g
theorem hasP_idx (l : List SPair) (s b : ByteArray) : (idx (isP s b) l = -1 ∧ hasP l s b = 0) ∨ ∃ (i : Nat) (x : SPair), l[i]? = some x ∧ idx (isP s b) l = i ∧ hasP l s b = x.amt := by
  by_cases h : l.any (isP s b) = true
  · right
    have hlt : l.findIdx (isP s b) < l.length := List.findIdx_lt_length.2 (List.any_eq_true.1 h)
    refine ⟨l.findIdx (isP s b), l[l.findIdx (isP s b)], by simp [hlt], by unfold idx; rw [if_pos h], ?_⟩
    have hp := List.findIdx_getElem (w := hlt)
    unfold hasP find
    have : l.find? (fun y => decide (pkey y = (s, b))) = some l[l.findIdx (isP s b)] := by
      rw [List.find?_eq_some_iff_getElem]
      refine ⟨by simpa [isP, pkey] using hp, l.findIdx (isP s b), hlt, rfl, fun j hj => ?_⟩
      have := List.not_of_lt_findIdx hj
      have hf : isP s b l[j] = false := by simpa using this
      have e : isP s b l[j] = decide (pkey l[j] = (s, b)) := by simp [isP, pkey]
      rw [← e, hf]; rfl
    rw [this]
  · left
    have hn : ∀ y ∈ l, isP s b y = false := fun y hy => by
      cases e : isP s b y with
      | false => rfl
      | true => exact absurd (List.any_eq_true.2 ⟨y, hy, e⟩) h
    refine ⟨idx_miss hn, ?_⟩
    unfold hasP find
    have : l.find? (fun y => decide (pkey y = (s, b))) = none := by
      rw [List.find?_eq_none]; intro y hy; have := hn y hy; simpa [isP, pkey] using this
    rw [this]
/-- A struct's own: one slice of a kind. -/
def kOne {α : Type} (k : Kd α) : Kd (List α) where
  size := 1
  K h l cs := ∃ A cap, cs = [.slice A l.length cap] ∧ Ow k h A cap l
  pos := by decide
  len := by rintro h x cs ⟨A, cap, rfl, _⟩; rfl
  one := by rintro h x cs ⟨A, cap, rfl, _⟩ u hu; simp at hu; subst hu; rfl
  mono := by rintro h h' x cs ⟨A, cap, e, s⟩ l; exact ⟨A, cap, e, s.mono l⟩
theorem Pt.one {α : Type} {k : Kd α} {T : TypeId} {h : Hp} {b : Nat} {l : List α} {w : World} (p : Pt (kOne k) T h b l) (s : h.sub w) : ∃ A ca, h b = some (.cells #[.slice A l.length ca] T (0, 0)) ∧ w.cell? ⟨b, 0, .none⟩ = some (.slice A l.length ca) ∧ Ow k (h.del b) A ca l ∧ ∀ n, w.frozen? ⟨b, n, .none⟩ = false := by
  obtain ⟨cs, hb, A, ca, rfl, ow⟩ := p
  exact ⟨A, ca, hb, by rw [cell_of_row w b 0 _ _ _ (s b _ hb)]; rfl, ow, fun n => frozen_of_row w b n _ _ (s b _ hb)⟩
end Go.Sl
end
section
/- The library's slices.SortFunc over cross.Row, laid at this program in plain words. -/
namespace Go.Proofs
open Go.Shelf
def Try.sortCrow_ren : Go.Shelf.Ren := ⟨fun | 6 => 79 | 15 => 109 | 14 => 112 | 28 => 139 | 29 => 140 | 20 => 141 | 21 => 142 | 22 => 143 | 23 => 144 | 24 => 145 | 25 => 146 | 26 => 147 | 27 => 148 | 46 => 172 | 47 => 168 | 48 => 169 | 49 => 173 | 50 => 174 | 57 => 183 | n => n, fun | 22 => 24 | 24 => 27 | 25 => 129 | 3 => 3 | 39 => 153 | 0 => 0 | 53 => 171 | 55 => 173 | 4 => 4 | 46 => 165 | 45 => 164 | 50 => 114 | 5 => 5 | 9 => 9 | 66 => 192 | 70 => 196 | 76 => 208 | 77 => 209 | n => n, fun | n => n⟩
theorem Try.sortCrow : Go.Proofs.SlLaysF0.n6 Try.prog Try.sortCrow_ren := {
  mixed := by kernel_rfl
  f6 := ⟨Try.f79.name, by decide, Try.func79.trans (congrArg some (by kernel_rfl))⟩
  f14 := ⟨Try.f112.name, by decide, Try.func112.trans (congrArg some (by kernel_rfl))⟩
  f15 := Try.func109.trans (congrArg some (by kernel_rfl))
  f20 := ⟨Try.f141.name, by decide, Try.func141.trans (congrArg some (by kernel_rfl))⟩
  f21 := ⟨Try.f142.name, by decide, Try.func142.trans (congrArg some (by kernel_rfl))⟩
  f22 := ⟨Try.f143.name, by decide, Try.func143.trans (congrArg some (by kernel_rfl))⟩
  f23 := ⟨Try.f144.name, by decide, Try.func144.trans (congrArg some (by kernel_rfl))⟩
  f24 := ⟨Try.f145.name, by decide, Try.func145.trans (congrArg some (by kernel_rfl))⟩
  f25 := ⟨Try.f146.name, by decide, Try.func146.trans (congrArg some (by kernel_rfl))⟩
  f26 := ⟨Try.f147.name, by decide, Try.func147.trans (congrArg some (by kernel_rfl))⟩
  f27 := ⟨Try.f148.name, by decide, Try.func148.trans (congrArg some (by kernel_rfl))⟩
  f28 := Try.func139.trans (congrArg some (by kernel_rfl))
  f29 := Try.func140.trans (congrArg some (by kernel_rfl))
  f46 := ⟨Try.f172.name, by decide, Try.func172.trans (congrArg some (by kernel_rfl))⟩
  f47 := Try.func168.trans (congrArg some (by kernel_rfl))
  f48 := Try.func169.trans (congrArg some (by kernel_rfl))
  f49 := ⟨Try.f173.name, by decide, Try.func173.trans (congrArg some (by kernel_rfl))⟩
  f50 := ⟨Try.f174.name, by decide, Try.func174.trans (congrArg some (by kernel_rfl))⟩
  f57 := ⟨Try.f183.name, by decide, Try.func183.trans (congrArg some (by kernel_rfl))⟩
  t0 := Try.underlying0
  a0 := Try.isAgg0
  z0 := Try.sizeOf0
  v0 := Try.zeroValue0
  t3 := Try.underlying3
  a3 := Try.isAgg3
  z3 := Try.sizeOf3
  v3 := Try.zeroValue3
  t4 := Try.underlying4
  a4 := Try.isAgg4
  z4 := Try.sizeOf4
  v4 := Try.zeroValue4
  t5 := Try.underlying5
  a5 := Try.isAgg5
  z5 := Try.sizeOf5
  v5 := Try.zeroValue5
  t9 := Try.underlying9
  a9 := Try.isAgg9
  z9 := Try.sizeOf9
  v9 := Try.zeroValue9
  t22 := Try.underlying24
  a22 := Try.isAgg24
  z22 := Try.sizeOf24
  v22 := Try.zeroValue24
  t25 := Try.underlying129
  a25 := Try.isAgg129
  z25 := Try.sizeOf129
  v25 := Try.zeroValue129
  t39 := Try.underlying153
  a39 := Try.isAgg153
  z39 := Try.sizeOf153
  v39 := Try.zeroValue153
  t45 := Try.underlying164
  a45 := Try.isAgg164
  z45 := Try.sizeOf164
  v45 := Try.zeroValue164
  t46 := Try.underlying165
  a46 := Try.isAgg165
  z46 := Try.sizeOf165
  v46 := Try.zeroValue165
  t50 := Try.underlying114
  a50 := Try.isAgg114
  z50 := Try.sizeOf114
  v50 := Try.zeroValue114
  t53 := Try.underlying171
  a53 := Try.isAgg171
  z53 := Try.sizeOf171
  v53 := Try.zeroValue171
  t55 := Try.underlying173
  a55 := Try.isAgg173
  z55 := Try.sizeOf173
  v55 := Try.zeroValue173
  t66 := Try.underlying192
  a66 := Try.isAgg192
  z66 := Try.sizeOf192
  v66 := Try.zeroValue192
  t70 := Try.underlying196
  a70 := Try.isAgg196
  z70 := Try.sizeOf196
  v70 := Try.zeroValue196
  t76 := Try.underlying208
  a76 := Try.isAgg208
  z76 := Try.sizeOf208
  v76 := Try.zeroValue208
  t77 := Try.underlying209
  a77 := Try.isAgg209
  z77 := Try.sizeOf209
  v77 := Try.zeroValue209 }
end Go.Proofs
end
section
/- The walks of the small functions: keep.Within, play.Amount, rate.Money, rate.Of, and the document's Of. -/
namespace Go.Proofs.Ytdcfojohgcmpcaa
open Go.RowKit Go.Sl
set_option maxHeartbeats 400000

theorem within_calls (v n : Int) (w : World) (h : 0 < n) (hn : n ≤ 9223372036854775807) :
    Calls Try.prog 15 #[.int .i64 v, .int .i64 n] w fun e w' => e = .returned (.int .i64 (within v n)) ∧ w = w' := by
  have h0 : (n == 0) = false := by simp; omega
  have h1 : decide (n < 1) = false := by simp; omega
  by_cases hk : v.tmod n < 0
  · have e := Lib.hid (tmod_emod_neg h hk)
    have hlo : -n < v.tmod n := Int.lt_tmod_of_pos _ h
    go_enter Try.func15, Try.ntmps15
    go_wp2
    go_ret
    exact ⟨by rw [e.out]; rfl, rfl⟩
  · have e := Lib.hid (tmod_emod_pos h hk)
    go_enter Try.func15, Try.ntmps15
    go_wp2
    go_ret
    exact ⟨by rw [e.out]; rfl, rfl⟩

theorem money_calls (n : Int) (w : World) : Calls Try.prog 65 #[.int .i64 n] w fun e w' => e = .returned (.bool (money n)) ∧ w = w' := by
  go_enter Try.func65, Try.ntmps65
  go_wp2
  all_goals
    go_ret
    exact ⟨by simp [money]; omega, rfl⟩

theorem of_calls (n r : Int) (w : World) : Calls Try.prog 66 #[.int .i64 n, .int .i64 r] w fun e w' => e = .returned (.tuple #[.int .i64 (ofVal n r), .bool (ofOk n r)]) ∧ w = w' := by
  by_cases hok : -400000000000 ≤ n ∧ n ≤ 400000000000 ∧ 0 ≤ r ∧ r ≤ 10000000
  · obtain ⟨h1, h2, h3, h4⟩ := hok
    obtain ⟨p1, p2⟩ := mul_bd h1 h2 h3 h4
    have e1 : ofOk n r = true := by simp [ofOk]; omega
    have e2 : ofVal n r = partOf n r := by simp [ofVal, e1]
    rw [e1, e2]
    clear e1 e2
    go_enter Try.func66, Try.ntmps66
    go_wp2
    all_goals first | (exfalso; omega) | skip
    all_goals
      go_ret2
      refine ⟨?_, rfl⟩
      unfold partOf
      first | (rw [if_pos (by assumption)]; rfl) | (rw [if_neg (by omega)]; rfl)
  · have e1 : ofOk n r = false := by simp [ofOk]; omega
    have e2 : ofVal n r = 0 := by simp [ofVal, e1]
    rw [e1, e2]
    clear e1 e2
    go_enter Try.func66, Try.ntmps66
    go_wp2
    all_goals first | (exfalso; omega) | skip
    all_goals
      go_ret2
      exact ⟨rfl, rfl⟩

theorem amount_calls (n : Int) (hw : -9223372036854775808 ≤ n ∧ n ≤ 9223372036854775807) (w : World) :
    Calls Try.prog 30 #[.int .i64 n] w fun e w' => e = .returned (.int .i64 (amount n)) ∧ w = w' := by
  obtain ⟨w1, w2⟩ := hw
  have a5 := within_lo (n.tdiv 23) (n := 5) (by omega)
  have b5 := within_hi (n.tdiv 23) (n := 5) (by omega)
  have a2 := within_lo (n.tdiv 23) (n := 200000000001) (by omega)
  have b2 := within_hi (n.tdiv 23) (n := 200000000001) (by omega)
  have a4 := within_lo n (n := 4001) (by omega)
  have b4 := within_hi n (n := 4001) (by omega)
  by_cases c1 : n.tmod 23 = 20
  · have b1 : (n.tmod 23 == 20) = true := by simpa using c1
    have e := Lib.hid (show amount n = 100000000000 - within (n.tdiv 23) 5 + 2 by simp [amount, c1])
    clear c1
    go_enter Try.func30, Try.ntmps30
    go_wp2_with (go_at_call 15; refine (within_calls _ _ _ (by omega) (by omega)).mono ?_; rintro e w' ⟨rfl, rfl⟩)
    go_ret
    exact ⟨by rw [e.out]; rfl, rfl⟩
  have b1 : (n.tmod 23 == 20) = false := by simpa using c1
  by_cases c2 : n.tmod 23 = 21
  · have b1 : (n.tmod 23 == 21) = true := by simpa using c2
    have e := Lib.hid (show amount n = -100000000000 + within (n.tdiv 23) 5 - 2 by simp [amount, c2])
    clear c1 c2
    go_enter Try.func30, Try.ntmps30
    go_wp2_with (go_at_call 15; refine (within_calls _ _ _ (by omega) (by omega)).mono ?_; rintro e w' ⟨rfl, rfl⟩)
    go_ret
    exact ⟨by rw [e.out]; rfl, rfl⟩
  have d1 : (n.tmod 23 == 21) = false := by simpa using c2
  by_cases c3 : n.tmod 23 = 22
  · have b1 : (n.tmod 23 == 22) = true := by simpa using c3
    have e := Lib.hid (show amount n = n by simp [amount, c3])
    clear c1 c2 c3
    go_enter Try.func30, Try.ntmps30
    go_wp2
    go_ret
    exact ⟨by rw [e.out]; rfl, rfl⟩
  have d2 : (n.tmod 23 == 22) = false := by simpa using c3
  by_cases c4 : n.tmod 23 = 19
  · have b1 : (n.tmod 23 == 19) = true := by simpa using c4
    have e := Lib.hid (show amount n = within (n.tdiv 23) 200000000001 - 100000000000 by simp [amount, c4])
    clear c1 c2 c3 c4
    go_enter Try.func30, Try.ntmps30
    go_wp2_with (go_at_call 15; refine (within_calls _ _ _ (by omega) (by omega)).mono ?_; rintro e w' ⟨rfl, rfl⟩)
    go_ret
    exact ⟨by rw [e.out]; rfl, rfl⟩
  · have d3 : (n.tmod 23 == 19) = false := by simpa using c4
    have e := Lib.hid (show amount n = within n 4001 - 2000 by simp [amount, c1, c2, c3, c4])
    clear c1 c2 c3 c4
    go_enter Try.func30, Try.ntmps30
    go_wp2_with (go_at_call 15; refine (within_calls _ _ _ (by omega) (by omega)).mono ?_; rintro e w' ⟨rfl, rfl⟩)
    go_ret
    exact ⟨by rw [e.out]; rfl, rfl⟩

theorem refOf_pos (n r : Int) (h : 0 ≤ n) (w : World) : Calls Try.prog 111 #[.int .i64 n, .int .i64 r] w fun e w' => e = .returned (.tuple #[.int .i64 (ofVal n r), .bool (ofOk n r)]) ∧ w = w' := by
  have hn : (n == 0) = true ∨ (n == 0) = false := by cases (n == 0) <;> simp
  by_cases hok : n ≤ 400000000000 ∧ 0 ≤ r ∧ r ≤ 10000000
  · obtain ⟨h2, h3, h4⟩ := hok
    obtain ⟨p1, p2⟩ := mul_bd (n := n) (by omega) h2 h3 h4
    have e1 : ofOk n r = true := by simp [ofOk]; omega
    have e2 : ofVal n r = partOf n r := by simp [ofVal, e1]
    have p3 : 0 ≤ n * r := Int.mul_nonneg h h3
    have p4 : n * r ≤ 4000000000000000000 := by rw [Int.mul_assoc] at p2; omega
    have p5 : partOf n r = if 2 * (n * r % 1000000) ≥ 1000000 then n * r / 1000000 + 1 else n * r / 1000000 := by
      unfold partOf
      rw [if_neg (by omega), Int.mul_assoc, Int.tdiv_eq_ediv_of_nonneg (by omega)]
      split <;> omega
    have P5 := Lib.hid p5
    rw [e1, e2]
    clear e1 e2 p1 p2 p5 hn
    go_enter Try.func111, Try.ntmps111
    go_wp2
    all_goals first | (exfalso; omega) | skip
    all_goals
      go_ret2
      refine ⟨?_, rfl⟩
      rw [P5.out]
      first | (rw [if_pos (by omega)]; rfl) | (rw [if_neg (by omega)]; rfl)
  · have e1 : ofOk n r = false := by simp [ofOk]; omega
    have e2 : ofVal n r = 0 := by simp [ofVal, e1]
    rw [e1, e2]
    clear e1 e2 hn
    go_enter Try.func111, Try.ntmps111
    go_wp2
    all_goals first | (exfalso; omega) | skip
    all_goals
      go_ret2
      exact ⟨rfl, rfl⟩
theorem refOf_calls (n r : Int) (w : World) : Calls Try.prog 111 #[.int .i64 n, .int .i64 r] w fun e w' => e = .returned (.tuple #[.int .i64 (ofVal n r), .bool (ofOk n r)]) ∧ w = w' := by
  by_cases h : 0 ≤ n
  · exact refOf_pos n r h w
  have hb := ofVal_neg n r
  by_cases hok : -400000000000 ≤ n ∧ 0 ≤ r ∧ r ≤ 10000000
  · obtain ⟨h2, h3, h4⟩ := hok
    have e1 : ofOk n r = true := by simp [ofOk]; omega
    have e3 := ofOk_neg n r
    have e2 : -ofVal (-n) r = ofVal n r := by omega
    obtain ⟨b1, b2⟩ := ofVal_bd (-n) r
    have E2 := Lib.hid e2
    have E1 := Lib.hid e1
    have C := refOf_pos (-n) r (by omega)
    rw [e3, e1] at C
    have hlt : n < 0 := by omega
    rw [e1]
    clear e1 e2 e3 hb h
    go_enter Try.func111, Try.ntmps111
    go_wp2_with (go_at_call 111; refine (C _).mono ?_; rintro e w' ⟨rfl, rfl⟩)
    all_goals first | (exfalso; omega) | skip
    all_goals
      go_ret2
      exact ⟨by rw [← E2.out]; rfl, rfl⟩
  · have e1 : ofOk n r = false := by simp [ofOk]; omega
    have e2 : ofVal n r = 0 := by simp [ofVal, e1]
    rw [e1, e2]
    clear e1 e2 hb
    go_enter Try.func111, Try.ntmps111
    go_wp2_with fail
    all_goals first | (exfalso; omega) | skip
    all_goals
      go_ret2
      exact ⟨rfl, rfl⟩
end Go.Proofs.Ytdcfojohgcmpcaa
end
section
/- What the type table says of cross.Row. -/
namespace Go.Proofs.Ytdcfojohgcmpcaa
open Go.RowKit Go.Sl
set_option maxHeartbeats 1000000
set_option maxRecDepth 100000
theorem info_crow : Info Try.prog 27 (.agg #[.string ⟨#[]⟩, .string ⟨#[]⟩, .int .i64 0]) 3 40 := by unfold Info; kernel_rfl
end Go.Proofs.Ytdcfojohgcmpcaa
end
section
/- append onto a slice in a body's own memory. No program is named here. -/
namespace Go.Sl
open Go Go.RowKit
section
variable {P : Program} {α : Type} {k : Kd α} {h hx : Hp} {A B : Option Addr} {cap : Nat} {xs ys : List α} {w0 w : World} {l : List Hp}
theorem Env.at_mem (E : Env w0 w l) {h : Hp} (m : h ∈ l) : h.sub w := E.own.mem h m
/-- One flat element. -/
theorem wpList_eapp {ops : Array Oper} {rest : List Oper} {op : Oper} {a : Act} {Q : Exit → Act → World → Prop} {sx xx : Operand} {t e : TypeId} {z : Value} {bytes : Nat} {cs : List Value} {T : TypeId} {fr : Nat × Nat} {b : Nat}
    (i : Nat) (y : α) (ht : P.underlying t = some (.slice e)) (hinfo : Info P e z k.size bytes) (E : Env w0 w l) (hi : l[i]? = some h) (o : Ow k h A cap xs) (n : Nat) (hn : xs.length = n)
    (hzs : z.cells.size = k.size) (hgd : Region.wanted op (yielded ops a.tmps) = true)
    (ho : op.op = .call { callee := .builtin .append, args := #[sx, xx], argTypes := #[t, t] }) (c : Nat) (hsv : a.eval sx = .slice A n cap) (hxv : a.eval xx = .slice (some ⟨b, 0, none⟩) 1 c)
    (hb : w.heap[b]? = some (.cells cs.toArray T fr)) (hK : k.K Hp.none y cs)
    (hm : n + 1 ≤ 1000000000) (hby : bytes ≤ 1000)
    (H : ∀ A' cap' w' h', Ow k h' A' cap' (xs ++ [y]) → Env w0 w' (l.set i h') → wpList P ops Q rest (a.put op.dst (.slice A' (n + 1) cap')) w') : wpList P ops Q (op :: rest) a w :=
  wpList_app1f ht hinfo hzs hgd ho n c hsv hxv hn o (E.sub i hi) hb hK hm hby fun A' cap' w' h' h1 h2 => H A' cap' w' h' h1 (E.upd i hi h2)
/-- A whole slice of flat elements. -/
theorem wpList_eappF {ops : Array Oper} {rest : List Oper} {op : Oper} {a : Act} {Q : Exit → Act → World → Prop} {sx xx : Operand} {t e : TypeId} {z : Value} {bytes cb : Nat}
    (i : Nat) (ht : P.underlying t = some (.slice e)) (hinfo : Info P e z k.size bytes) (E : Env w0 w l) (hi : l[i]? = some h) (o : Ow k h A cap xs) (sy : Sl k hx B cb ys) (sx' : hx.sub w) (n m : Nat) (hn : xs.length = n) (hm' : ys.length = m)
    (f : k.Flat) (hzs : z.cells.size = k.size) (hgd : Region.wanted op (yielded ops a.tmps) = true)
    (ho : op.op = .call { callee := .builtin .append, args := #[sx, xx], argTypes := #[t, t] }) (c : Nat) (hsv : a.eval sx = .slice A n cap) (hxv : a.eval xx = .slice B m c)
    (hm : n + m ≤ 1000000000) (hby : bytes ≤ 1000)
    (H : ∀ A' cap' w' h', Ow k h' A' cap' (xs ++ ys) → Env w0 w' (l.set i h') → wpList P ops Q rest (a.put op.dst (.slice A' (n + m) cap')) w') : wpList P ops Q (op :: rest) a w :=
  wpList_appF ht hinfo hzs hgd ho n m c hsv hxv hn hm' f o (E.sub i hi) sy sx' hm hby fun A' cap' w' h' h1 h2 => H A' cap' w' h' h1 (E.upd i hi h2)
end
end Go.Sl
end
