/- append onto a slice that has no room: what it held stands. No program is named here. -/
import Derived.Test.YtnpnndifhlihhaaSlice
namespace Go.Sl
open Go Go.RowKit
section
variable {P : Program} {α : Type} {k : Kd α} {h : Hp} {B : Option Addr} {g off : Nat} {xs ys : List α}
theorem run_append_full {w : World} {t ty e : TypeId} {i : TypeInfo} {z : Value} (ht : P.underlying t = some (.slice e)) (hi : P.info? e = some i) (hz : i.zero = some z)
    (hsize : i.size = k.size) (f : k.Flat) (o : Sl k h (some ⟨g, off, none⟩) xs.length xs) (s : h.sub w) (src : Src k Hp.none w B ys) (c : Nat)
    (hm : xs.length + ys.length ≤ maxLen) (hby : (xs.length + ys.length) * i.bytes ≤ 140737488355328) :
    ∃ A' cap' w', (Builtin.append_ #[t, t] ty #[.slice (some ⟨g, off, none⟩) xs.length xs.length, .slice B ys.length c]).run P w = .ok (.slice A' (xs.length + ys.length) cap') w' ∧
      Sl k (Hp.all w') A' cap' (xs ++ ys) ∧ Below w.heap.size w w' := by
  have hsmall : xs.length + ys.length ≤ 9223372036854775807 := by unfold maxLen at hm; omega
  by_cases hy0 : ys = []
  · subst hy0
    refine ⟨some ⟨g, off, none⟩, xs.length, w, ?_, by simpa using o.mono s.le_all, Below.refl _ _⟩
    cases B with
    | none => simp [Builtin.append_, run_underlying ht, sizeOf, typeInfo, hi, Builtin.lenOf, Builtin.firstCells, storeCells]
    | some ad => simp [Builtin.append_, run_underlying ht, sizeOf, typeInfo, hi, Builtin.lenOf, Builtin.firstCells, storeCells, loadCells, loadCellsFrom]
  · have hpos : 0 < ys.length := List.length_pos_iff.2 hy0
    obtain ⟨bb, boff, rfl⟩ : ∃ bb boff, B = some ⟨bb, boff, none⟩ := by
      obtain ⟨b, off, _, e, _⟩ := src.row 0 ys[0] (by simp [hpos])
      exact ⟨_, _, e⟩
    obtain ⟨news, hnl, hnews, hn1, hnK⟩ := src.all
    obtain ⟨olds, hol, holds, _, hoK⟩ := ((o.src s).flat f Hp.none).all
    have hge := grownCap_ge w (xs.length + ys.length) xs.length e
    have hcm : grownCap w (xs.length + ys.length) xs.length e ≤ maxLen := grownCap_le_maxLen w _ _ e hm
    have hr := run_append_grow (P := P) w t ty e i z ht hi hz ⟨g, off, none⟩ xs.length xs.length olds (by rw [hol, hsize]) holds ⟨bb, boff, none⟩ ys.length c news (by rw [hnl, hsize]) hnews (by omega) (by omega) (growslice_fits (by omega) hby)
    refine ⟨_, _, _, hr, ⟨by simp; omega, hcm, (fun e => (nomatch e)), ?_⟩, ?_⟩
    · intro n x hx
      have hnew := heap_alloc_new w.drew (.cells (olds.toArray ++ news.toArray ++ Builtin.zeroCells z.cells (grownCap w (xs.length + ys.length) xs.length e - (xs.length + ys.length))) e)
      by_cases hlt : n < xs.length
      · rw [List.getElem?_append_left hlt] at hx
        obtain ⟨cs, hK, hc⟩ := hoK n x hx
        refine ⟨w.heap.size, 0, _, e, (0, 0), cs, rfl, hnew, f hK, fun j u hu => ?_⟩
        have h2 := hc j u hu
        have h3 := (List.getElem?_eq_some_iff.1 h2).1
        simp only [Nat.zero_add, Array.getElem?_append, Array.size_append, List.size_toArray, List.getElem?_toArray]
        rw [if_pos (by omega), if_pos h3]; exact h2
      · rw [List.getElem?_append_right (by omega)] at hx
        obtain ⟨cs, hK, hc⟩ := hnK _ x hx
        refine ⟨w.heap.size, 0, _, e, (0, 0), cs, rfl, hnew, f hK, fun j u hu => ?_⟩
        have h2 := hc j u hu
        have h3 := (List.getElem?_eq_some_iff.1 h2).1
        have h4 : (n - xs.length) * k.size = n * k.size - xs.length * k.size := Nat.sub_mul _ _ _
        have h5 : xs.length * k.size ≤ n * k.size := Nat.mul_le_mul_right _ (by omega)
        simp only [Nat.zero_add, Array.getElem?_append, Array.size_append, List.size_toArray, List.getElem?_toArray]
        rw [if_pos (by omega), if_neg (by omega), ← h2]; congr 1; omega
    · exact ((Below.refl _ _).drew).alloc (Nat.le_refl _) _
theorem wp_append_full {w : World} {op : Oper} {a : Act} {K : Act → World → Prop} {Q : Exit → Act → World → Prop} (sx xx : Operand) (t : TypeId)
    (ho : op.op = .call { callee := .builtin .append, args := #[sx, xx], argTypes := #[t, t] })
    (e : TypeId) (i : TypeInfo) (z : Value) (ht : P.underlying t = some (.slice e)) (hi : P.info? e = some i) (hz : i.zero = some z)
    (hsize : i.size = k.size) (bytes : Nat) (hbt : i.bytes = bytes) (n m c : Nat) (hn : xs.length = n) (hm' : ys.length = m)
    (hsv : a.eval sx = .slice (some ⟨g, off, none⟩) n n) (hxv : a.eval xx = .slice B m c)
    (f : k.Flat) (o : Sl k h (some ⟨g, off, none⟩) n xs) (s : h.sub w) (src : Src k Hp.none w B ys)
    (hm : n + m ≤ maxLen) (hby : (n + m) * bytes ≤ 140737488355328)
    (H : ∀ A' cap' w', Sl k (Hp.all w') A' cap' (xs ++ ys) → Below w.heap.size w w' → K (a.put op.dst (.slice A' (n + m) cap')) w') : op.wp P a w K Q := by
  subst hn
  subst hm'
  subst hbt
  obtain ⟨A', cap', w', hr, h1, h2⟩ := run_append_full (P := P) (ty := op.type) ht hi hz hsize f o s src c hm hby
  unfold Oper.wp execOp
  simp only [ho, resolve, invoke, builtin, Sem.run_bind, Sem.run_pure, Result.andThen_ok, List.map_toArray, List.map_cons, List.map_nil, hsv, hxv, hr]
  exact H A' cap' w' h1 h2
theorem step_append_full {w : World} {ops : Array Oper} {op : Oper} {a : Act} {K : Act → World → Prop} {Q : Exit → Act → World → Prop} {E : Prop} (hgd : op.guard = none) (sx xx : Operand) (t : TypeId)
    (ho : op.op = .call { callee := .builtin .append, args := #[sx, xx], argTypes := #[t, t] })
    (e : TypeId) (i : TypeInfo) (z : Value) (ht : P.underlying t = some (.slice e)) (hi : P.info? e = some i) (hz : i.zero = some z)
    (hsize : i.size = k.size) (bytes : Nat) (hbt : i.bytes = bytes) (n m c : Nat) (hn : xs.length = n) (hm' : ys.length = m)
    (hsv : a.eval sx = .slice (some ⟨g, off, none⟩) n n) (hxv : a.eval xx = .slice B m c)
    (f : k.Flat) (o : Sl k h (some ⟨g, off, none⟩) n xs) (s : h.sub w) (src : Src k Hp.none w B ys)
    (hm : n + m ≤ maxLen) (hby : (n + m) * bytes ≤ 140737488355328)
    (H : ∀ A' cap' w', Sl k (Hp.all w') A' cap' (xs ++ ys) → Below w.heap.size w w' → K (a.put op.dst (.slice A' (n + m) cap')) w') :
    if Region.wanted op (yielded ops a.tmps) = true then Oper.wp P op a w K Q else E := by
  rw [if_pos (by simp [Region.wanted, hgd])]
  exact wp_append_full sx xx t ho e i z ht hi hz hsize bytes hbt n m c hn hm' hsv hxv f o s src hm hby H
/-- A slice, cut short, may hold no more. -/
theorem Sl.cut {A : Option Addr} {cap : Nat} (o : Sl k h A cap xs) {n : Nat} (hn : n ≤ xs.length) : Sl k h A n (xs.take n) := by
  have hle := o.le
  have hmx := o.max
  refine ⟨by rw [List.length_take]; omega, by omega, fun e => by have := o.nil e; omega, fun i x hx => ?_⟩
  rw [List.getElem?_take] at hx
  split at hx
  · exact o.row i x hx
  · cases hx
/-- What lies behind the first n, as a slice expression has it. -/
theorem Sl.behind {cap : Nat} (s : Sl k h (some ⟨g, off, .none⟩) cap xs) (n : Nat) : Sl k h (if cap = n then some ⟨g, off, .none⟩ else some ⟨g, off + n * k.size, .none⟩) (cap - n) (xs.drop n) := by
  split
  · have := s.le
    rw [List.drop_eq_nil_of_le (by omega)]
    exact ⟨by simp, by have := s.max; omega, (fun e => nomatch e), fun i x hx => by simp at hx⟩
  · exact s.drop rfl n
end
end Go.Sl
