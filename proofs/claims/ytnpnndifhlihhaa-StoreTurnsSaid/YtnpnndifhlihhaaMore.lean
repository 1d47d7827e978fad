/- More of the library for walks: append of one new element, clones, pointers to structs. No program is named here. -/
import Derived.Test.YtnpnndifhlihhaaFull
import Derived.Lib.Hide
namespace Go.Sl
open Go Go.RowKit
section
variable {P : Program} {α : Type} {k : Kd α} {h hx : Hp} {A B : Option Addr} {cap : Nat} {xs ys : List α} {w : World}
/-- What the table says of an element's type. -/
def Info (P : Program) (e : TypeId) (z : Value) (size bytes : Nat) : Prop := (P.info? e).map (fun i => (i.zero, i.size, i.bytes)) = some (some z, size, bytes)
theorem wp_app1 {op : Oper} {a : Act} {K : Act → World → Prop} {Q : Exit → Act → World → Prop} {sx xx : Operand} {t e : TypeId} {z : Value} {bytes : Nat} {y : α} {cs : List Value} {T : TypeId} {fr : Nat × Nat} {b : Nat}
    (ht : P.underlying t = some (.slice e)) (hinfo : Info P e z k.size bytes) (hzs : z.cells.size = k.size)
    (ho : op.op = .call { callee := .builtin .append, args := #[sx, xx], argTypes := #[t, t] }) (n c : Nat) (hsv : a.eval sx = .slice A n cap) (hxv : a.eval xx = .slice (some ⟨b, 0, none⟩) 1 c)
    (hn : xs.length = n) (o : Ow k h A cap xs) (s : h.sub w) (hb : w.heap[b]? = some (.cells cs.toArray T fr)) (hK : k.K hx y cs) (sx' : hx.sub w) (ap : h.apart hx)
    (hm : n + 1 ≤ 1000000000) (hby : bytes ≤ 1000)
    (H : ∀ A' cap' w' h', Ow k h' A' cap' (xs ++ [y]) → Upd (h.or hx) h' w w' → K (a.put op.dst (.slice A' (n + 1) cap')) w') : op.wp P a w K Q := by
  unfold Info at hinfo
  obtain ⟨i, hi, hz0, hz1, hz2⟩ := info_parts hinfo
  refine wp_append sx xx t ho e i z ht hi hz0 hz1 hzs bytes hz2 n 1 c hn rfl hsv hxv o s (Src.new hb hK) sx' ap (by unfold maxLen; omega) ?_ H
  have : (n + 1) * bytes ≤ 1000000000 * 1000 := Nat.mul_le_mul hm hby
  omega
theorem wpList_app1 {ops : Array Oper} {rest : List Oper} {op : Oper} {a : Act} {Q : Exit → Act → World → Prop} {sx xx : Operand} {t e : TypeId} {z : Value} {bytes : Nat} {y : α} {cs : List Value} {T : TypeId} {fr : Nat × Nat} {b : Nat}
    (ht : P.underlying t = some (.slice e)) (hinfo : Info P e z k.size bytes) (hzs : z.cells.size = k.size) (hgd : Region.wanted op (yielded ops a.tmps) = true)
    (ho : op.op = .call { callee := .builtin .append, args := #[sx, xx], argTypes := #[t, t] }) (n c : Nat) (hsv : a.eval sx = .slice A n cap) (hxv : a.eval xx = .slice (some ⟨b, 0, none⟩) 1 c)
    (hn : xs.length = n) (o : Ow k h A cap xs) (s : h.sub w) (hb : w.heap[b]? = some (.cells cs.toArray T fr)) (hK : k.K hx y cs) (sx' : hx.sub w) (ap : h.apart hx)
    (hm : n + 1 ≤ 1000000000) (hby : bytes ≤ 1000)
    (H : ∀ A' cap' w' h', Ow k h' A' cap' (xs ++ [y]) → Upd (h.or hx) h' w w' → wpList P ops Q rest (a.put op.dst (.slice A' (n + 1) cap')) w') : wpList P ops Q (op :: rest) a w := by
  simp only [wpList, hgd, if_true]
  exact .inl (wp_app1 ht hinfo hzs ho n c hsv hxv hn o s hb hK sx' ap hm hby H)
theorem step_app1 {ops : Array Oper} {op : Oper} {a : Act} {K : Act → World → Prop} {Q : Exit → Act → World → Prop} {E : Prop} {sx xx : Operand} {t e : TypeId} {z : Value} {bytes : Nat} {y : α} {cs : List Value} {T : TypeId} {fr : Nat × Nat} {b : Nat}
    (ht : P.underlying t = some (.slice e)) (hinfo : Info P e z k.size bytes) (hzs : z.cells.size = k.size) (hgd : op.guard = none)
    (ho : op.op = .call { callee := .builtin .append, args := #[sx, xx], argTypes := #[t, t] }) (n c : Nat) (hsv : a.eval sx = .slice A n cap) (hxv : a.eval xx = .slice (some ⟨b, 0, none⟩) 1 c)
    (hn : xs.length = n) (o : Ow k h A cap xs) (s : h.sub w) (hb : w.heap[b]? = some (.cells cs.toArray T fr)) (hK : k.K hx y cs) (sx' : hx.sub w) (ap : h.apart hx)
    (hm : n + 1 ≤ 1000000000) (hby : bytes ≤ 1000)
    (H : ∀ A' cap' w' h', Ow k h' A' cap' (xs ++ [y]) → Upd (h.or hx) h' w w' → K (a.put op.dst (.slice A' (n + 1) cap')) w') :
    if Region.wanted op (yielded ops a.tmps) = true then Oper.wp P op a w K Q else E := by
  rw [if_pos (by simp [Region.wanted, hgd])]
  exact wp_app1 ht hinfo hzs ho n c hsv hxv hn o s hb hK sx' ap hm hby H
/-- The same for elements whose cells say all. -/
theorem wpList_app1f {ops : Array Oper} {rest : List Oper} {op : Oper} {a : Act} {Q : Exit → Act → World → Prop} {sx xx : Operand} {t e : TypeId} {z : Value} {bytes : Nat} {y : α} {cs : List Value} {T : TypeId} {fr : Nat × Nat} {b : Nat}
    (ht : P.underlying t = some (.slice e)) (hinfo : Info P e z k.size bytes) (hzs : z.cells.size = k.size) (hgd : Region.wanted op (yielded ops a.tmps) = true)
    (ho : op.op = .call { callee := .builtin .append, args := #[sx, xx], argTypes := #[t, t] }) (n c : Nat) (hsv : a.eval sx = .slice A n cap) (hxv : a.eval xx = .slice (some ⟨b, 0, none⟩) 1 c)
    (hn : xs.length = n) (o : Ow k h A cap xs) (s : h.sub w) (hb : w.heap[b]? = some (.cells cs.toArray T fr)) (hK : k.K Hp.none y cs)
    (hm : n + 1 ≤ 1000000000) (hby : bytes ≤ 1000)
    (H : ∀ A' cap' w' h', Ow k h' A' cap' (xs ++ [y]) → Upd h h' w w' → wpList P ops Q rest (a.put op.dst (.slice A' (n + 1) cap')) w') : wpList P ops Q (op :: rest) a w :=
  wpList_app1 ht hinfo hzs hgd ho n c hsv hxv hn o s hb hK (Hp.none_sub _) (Hp.apart_none _) hm hby fun A' cap' w' h' h1 h2 => H A' cap' w' h' h1 h2.flat
theorem step_app1f {ops : Array Oper} {op : Oper} {a : Act} {K : Act → World → Prop} {Q : Exit → Act → World → Prop} {E : Prop} {sx xx : Operand} {t e : TypeId} {z : Value} {bytes : Nat} {y : α} {cs : List Value} {T : TypeId} {fr : Nat × Nat} {b : Nat}
    (ht : P.underlying t = some (.slice e)) (hinfo : Info P e z k.size bytes) (hzs : z.cells.size = k.size) (hgd : op.guard = none)
    (ho : op.op = .call { callee := .builtin .append, args := #[sx, xx], argTypes := #[t, t] }) (n c : Nat) (hsv : a.eval sx = .slice A n cap) (hxv : a.eval xx = .slice (some ⟨b, 0, none⟩) 1 c)
    (hn : xs.length = n) (o : Ow k h A cap xs) (s : h.sub w) (hb : w.heap[b]? = some (.cells cs.toArray T fr)) (hK : k.K Hp.none y cs)
    (hm : n + 1 ≤ 1000000000) (hby : bytes ≤ 1000)
    (H : ∀ A' cap' w' h', Ow k h' A' cap' (xs ++ [y]) → Upd h h' w w' → K (a.put op.dst (.slice A' (n + 1) cap')) w') :
    if Region.wanted op (yielded ops a.tmps) = true then Oper.wp P op a w K Q else E :=
  step_app1 ht hinfo hzs hgd ho n c hsv hxv hn o s hb hK (Hp.none_sub _) (Hp.apart_none _) hm hby fun A' cap' w' h' h1 h2 => H A' cap' w' h' h1 h2.flat
/-- append of a whole slice of flat elements. -/
theorem wpList_appF {ops : Array Oper} {rest : List Oper} {op : Oper} {a : Act} {Q : Exit → Act → World → Prop} {sx xx : Operand} {t e : TypeId} {z : Value} {bytes cb : Nat}
    (ht : P.underlying t = some (.slice e)) (hinfo : Info P e z k.size bytes) (hzs : z.cells.size = k.size) (hgd : Region.wanted op (yielded ops a.tmps) = true)
    (ho : op.op = .call { callee := .builtin .append, args := #[sx, xx], argTypes := #[t, t] }) (n m c : Nat) (hsv : a.eval sx = .slice A n cap) (hxv : a.eval xx = .slice B m c)
    (hn : xs.length = n) (hm' : ys.length = m) (f : k.Flat) (o : Ow k h A cap xs) (s : h.sub w) (sy : Sl k hx B cb ys) (sx' : hx.sub w)
    (hm : n + m ≤ 1000000000) (hby : bytes ≤ 1000)
    (H : ∀ A' cap' w' h', Ow k h' A' cap' (xs ++ ys) → Upd h h' w w' → wpList P ops Q rest (a.put op.dst (.slice A' (n + m) cap')) w') : wpList P ops Q (op :: rest) a w := by
  unfold Info at hinfo
  obtain ⟨i, hi, hz0, hz1, hz2⟩ := info_parts hinfo
  refine wpList_append_g hgd sx xx t ho e i z ht hi hz0 hz1 hzs bytes hz2 n m c hn hm' hsv hxv o s ((sy.src sx').flat f Hp.none) (Hp.none_sub _) (Hp.apart_none _) (by unfold maxLen; omega) ?_ (fun A' cap' w' h' h1 h2 => H A' cap' w' h' h1 h2.flat)
  have : (n + m) * bytes ≤ 1000000000 * 1000 := Nat.mul_le_mul hm hby
  omega
/-- append(s[:0:0], s...): a copy in new memory. -/
theorem wpList_clone {ops : Array Oper} {rest : List Oper} {op : Oper} {a : Act} {Q : Exit → Act → World → Prop} {sx xx : Operand} {t e : TypeId} {z : Value} {bytes : Nat}
    (ht : P.underlying t = some (.slice e)) (hinfo : Info P e z k.size bytes) (hzs : z.cells.size = k.size) (hgd : Region.wanted op (yielded ops a.tmps) = true)
    (ho : op.op = .call { callee := .builtin .append, args := #[sx, xx], argTypes := #[t, t] }) (n c : Nat) (hsv : a.eval sx = .slice B 0 0) (hxv : a.eval xx = .slice A n c)
    (hn : xs.length = n) (f : k.Flat) (o : Sl k h A cap xs) (s : h.sub w) (hm : n ≤ 1000000000) (hby : bytes ≤ 1000)
    (H : ∀ A' cap' w' h', Ow k h' A' cap' xs → Upd Hp.none h' w w' → wpList P ops Q rest (a.put op.dst (.slice A' n cap')) w') : wpList P ops Q (op :: rest) a w := by
  unfold Info at hinfo
  obtain ⟨i, hi, hz0, hz1, hz2⟩ := info_parts hinfo
  refine wpList_append_g hgd sx xx t ho e i z ht hi hz0 hz1 hzs bytes hz2 0 n c rfl hn hsv hxv (Ow.zero k Hp.none B) (Hp.none_sub _) ((o.src s).flat f Hp.none) (Hp.none_sub _) (Hp.apart_none _) (by unfold maxLen; omega) ?_ ?_
  · have : (0 + n) * bytes ≤ 1000000000 * 1000 := Nat.mul_le_mul (by omega) hby
    omega
  · intro A' cap' w' h' h1 h2
    rw [Nat.zero_add]
    exact H A' cap' w' h' h1 h2.flat
end
/-- A pointer's block, wholly h's: a struct of the kind k. -/
def Pt {α : Type} (k : Kd α) (T : TypeId) (h : Hp) (b : Nat) (x : α) : Prop := ∃ cs : List Value, h b = some (.cells cs.toArray T (0, 0)) ∧ k.K (h.del b) x cs
section
variable {α : Type} {k : Kd α} {h : Hp} {T : TypeId} {b : Nat} {x : α} {w : World}
theorem Pt.block (p : Pt k T h b x) (s : h.sub w) : ∃ cs : List Value, w.heap[b]? = some (.cells cs.toArray T (0, 0)) ∧ k.K (h.del b) x cs := by
  obtain ⟨cs, h1, h2⟩ := p; exact ⟨cs, s b _ h1, h2⟩
theorem Hp.sub.del {h : Hp} {w : World} (s : h.sub w) (b : Nat) : (h.del b).sub w := s.le (Hp.del_le h b)
theorem Hp.put_sub {h : Hp} {b : Nat} {o : Obj} {w : World} (s : h.sub w) (e : w.heap[b]? = some o) : (h.put b o).sub w := fun q o' e' => by
  simp only [Hp.put] at e'
  split at e'
  · rename_i hq; cases e'; rw [hq]; exact e
  · exact s q o' e'
theorem Hp.put_del {h : Hp} {b : Nat} {o : Obj} (e : h b = Option.none) : (h.put b o).del b = h := by
  funext q; simp only [Hp.del, Hp.put]; split
  · rename_i hq; rw [hq, e]
  · rfl
theorem Hp.put_self {h : Hp} {b : Nat} {o : Obj} : (h.put b o) b = some o := if_pos rfl
theorem Hp.del_self {h : Hp} {b : Nat} : (h.del b) b = Option.none := if_pos rfl
/-- A new block beside what is there. -/
theorem Pt.new {cs : List Value} {x : α} (n : h b = Option.none) (hK : k.K h x cs) : Pt k T (h.put b (.cells cs.toArray T)) b x :=
  ⟨cs, Hp.put_self, by rw [Hp.put_del n]; exact hK⟩
/-- What was made before, eaten by a change. -/
theorem Upd.eat {hx hl hl' : Hp} {w0 w1 : World} (u : Upd Hp.none hx w w0) (v : Upd (hl.or hx) hl' w0 w1) : Upd hl hl' w w1 :=
  ⟨v.os.trans u.os, v.tape.trans u.tape, v.output.trans u.output, Nat.le_trans u.size v.size,
    fun q hq hn => (v.keep q (Nat.lt_of_lt_of_le hq u.size) (by simp [Hp.or, hn, u.new_none hq])).trans (u.keep q hq rfl), v.sub, fun q hq => by
      rcases v.dom q hq with h1 | h1
      · by_cases hn : hl q = .none
        · simp only [Hp.or, hn, Option.none_or] at h1
          rcases u.dom q h1 with h2 | h2
          · exact absurd rfl h2
          · exact .inr h2
        · exact .inl hn
      · exact .inr (Nat.le_trans u.size h1)⟩
/-- A block of the part is stored into, behind a change of the rest. -/
theorem Upd.field {hr r' : Hp} {w1 : World} {cs : List Value} {v : Value} (j : Nat) (hb : h b = some (.cells cs.toArray T (0, 0))) (s : h.sub w) (hr' : hr.le (h.del b)) (u : Upd hr r' w w1) :
    Upd h (r'.put b (.cells (cs.set j v).toArray T (0, 0))) w (w1.setCell ⟨b, j, .none⟩ v) ∧ r' b = .none := by
  have hbw := s b _ hb
  have hlt := s.lt (b := b) (by simp [hb])
  have hrn : hr b = .none := by
    cases hh : hr b with
    | none => rfl
    | some o => have := hr' b o hh; simp [Hp.del] at this
  have hb1 : w1.heap[b]? = some (.cells cs.toArray T (0, 0)) := (u.keep b hlt hrn).trans hbw
  have e1 : w1.setCell ⟨b, j, .none⟩ v = w1.setRow b (cs.toArray.setIfInBounds j v) := setCell_eq_setRow w1 b _ _ T (0, 0) v hb1
  have e2 : cs.toArray.setIfInBounds j v = (cs.set j v).toArray := by simp
  have hr0 : r' b = .none := by
    cases hh : r' b with
    | none => rfl
    | some o =>
      rcases u.dom b (by simp [hh]) with h1 | h1
      · exact absurd hrn h1
      · omega
  rw [e1, e2]
  refine ⟨⟨u.os, u.tape, u.output, by simpa using u.size, fun q hq hn => ?_, ?_, fun q hq => ?_⟩, hr0⟩
  · have hqb : q ≠ b := fun e => by rw [e, hb] at hn; cases hn
    rw [setRow_other w1 b q _ hqb]
    refine u.keep q hq ?_
    cases hh : hr q with
    | none => rfl
    | some o => have := Hp.del_le h b q o (hr' q o hh); rw [hn] at this; cases this
  · intro q o2 e2
    simp only [Hp.put] at e2
    split at e2
    · rename_i hq; cases e2; rw [hq]; exact setRow_heap w1 b _ _ T _ hb1
    · rename_i hq; rw [setRow_other w1 b q _ hq]; exact u.sub q o2 e2
  · simp only [Hp.put] at hq
    split at hq
    · rename_i hq2; left; rw [hq2, hb]; simp
    · rcases u.dom q hq with h1 | h1
      · left
        cases hh : hr q with
        | none => exact absurd hh h1
        | some o => rw [Hp.del_le h b q o (hr' q o hh)]; simp
      · exact .inr h1
end
/-- All that stood below reads as it did. -/
theorem bcell {W w1 : World} (hb : Below W.heap.size W w1) : (∀ b o, b < W.heap.size → w1.cell? ⟨b, o, .none⟩ = W.cell? ⟨b, o, .none⟩) ∧ (∀ b o, b < W.heap.size → w1.frozen? ⟨b, o, .none⟩ = W.frozen? ⟨b, o, .none⟩) :=
  ⟨fun b o h => hb.cell (p := ⟨b, o, .none⟩) h, fun b o h => hb.frozen (p := ⟨b, o, .none⟩) h⟩
/-- A store into a block of the call's own that is not told. -/
theorem Upd.setNew {h h' : Hp} {w w1 : World} {b j : Nat} {v : Value} (u : Upd h h' w w1) (hb : w.heap.size ≤ b) (hn : h' b = .none) : Upd h h' w (w1.setCell ⟨b, j, .none⟩ v) := by
  have B : ∀ q, q ≠ b → (w1.setCell ⟨b, j, .none⟩ v).heap[q]? = w1.heap[q]? := fun q hq => Below.heap_setCell w1 ⟨b, j, .none⟩ v q hq
  have S : (w1.setCell ⟨b, j, .none⟩ v).heap.size = w1.heap.size := by simp
  have G : Below b w1 (w1.setCell ⟨b, j, .none⟩ v) := (Below.refl b w1).setCell (Nat.le_refl _) v
  refine ⟨G.os.trans u.os, G.tape.trans u.tape, G.output.trans u.output, by rw [S]; exact u.size, fun q hq hn => ?_, fun q o e => ?_, u.dom⟩
  · rw [B q (by omega)]; exact u.keep q hq hn
  · rw [B q (fun e2 => by rw [e2, hn] at e; cases e)]; exact u.sub q o e
theorem Upd.frozen {h h' : Hp} {w w' : World} (u : Upd h h' w w') {p : Addr} (hp : p.block < w.heap.size) (hn : h p.block = .none) : w'.frozen? p = w.frozen? p :=
  World.frozen?_of_block (w := w) (u.keep p.block hp hn)
theorem frozen_alloc {w : World} {o : Obj} {b n : Nat} (h : b < w.heap.size) : (w.alloc o).frozen? ⟨b, n, .none⟩ = w.frozen? ⟨b, n, .none⟩ := ((Below.refl _ _).alloc (Nat.le_refl _) o).frozen h
theorem cell_alloc {w : World} {o : Obj} {b n : Nat} (h : b < w.heap.size) : (w.alloc o).cell? ⟨b, n, .none⟩ = w.cell? ⟨b, n, .none⟩ := ((Below.refl _ _).alloc (Nat.le_refl _) o).cell h
end Go.Sl
