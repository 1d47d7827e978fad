/- The memory that a body holds: parts of its own, apart from each other, all made since it began. No program is named here. -/
import Derived.Test.YtnpnndifhlihhaaMore
namespace Go.Sl
open Go Go.RowKit
/-- Of the world w0 nothing has turned; the parts l were made since, and are apart. -/
structure Env (w0 w : World) (l : List Hp) : Prop where
  own : Own w l
  fr : ∀ h ∈ l, ∀ q, h q ≠ Option.none → w0.heap.size ≤ q
  low : Below w0.heap.size w0 w
section
variable {w0 w w1 : World} {l : List Hp} {h h' : Hp}
theorem Env.start (w : World) : Env w w [] := ⟨trivial, fun _ e => absurd e (by simp), Below.refl _ _⟩
theorem Env.below (E : Env w0 w l) (b : Below w.heap.size w w1) : Env w0 w1 l := ⟨E.own.below b, E.fr, E.low.trans (b.mono E.low.size)⟩
theorem Own.snoc {w : World} {h' : Hp} (s : h'.sub w) : ∀ {l : List Hp}, Own w l → (∀ k ∈ l, k.apart h') → Own w (l ++ [h'])
  | [], _, _ => ⟨s, fun _ e => absurd e (by simp), trivial⟩
  | k :: l, o, a => ⟨o.1, fun q hq => by
      rcases List.mem_append.1 hq with hq | hq
      · exact o.2.1 q hq
      · simp at hq; subst hq; exact a k (by simp), o.2.2.snoc s fun q hq => a q (by simp [hq])⟩
theorem Env.new (E : Env w0 w l) (u : Upd Hp.none h' w w1) : Env w0 w1 (l ++ [h']) :=
  ⟨(E.own.below u.below).snoc u.sub fun k hk => (u.apart (fun _ e => absurd rfl e) (E.own.mem k hk)).symm, fun k hk q hq => by
    rcases List.mem_append.1 hk with hk | hk
    · exact E.fr k hk q hq
    · simp at hk; subst hk
      rcases u.dom q hq with e | e
      · exact absurd rfl e
      · exact Nat.le_trans E.low.size e, E.low.trans (u.below.mono E.low.size)⟩
theorem Env.upd (E : Env w0 w l) (i : Nat) (hi : l[i]? = some h) (u : Upd h h' w w1) : Env w0 w1 (l.set i h') :=
  ⟨E.own.upd u i hi, fun k hk q hq => by
    rcases List.mem_or_eq_of_mem_set hk with hk | rfl
    · exact E.fr k hk q hq
    · rcases u.dom q hq with e | e
      · exact E.fr h (List.mem_of_getElem? hi) q e
      · exact Nat.le_trans E.low.size e,
   ⟨u.os.trans E.low.os, u.tape.trans E.low.tape, u.output.trans E.low.output, Nat.le_trans E.low.size u.size, fun q hq => by
    refine (u.keep q (Nat.lt_of_lt_of_le hq E.low.size) ?_).trans (E.low.block q hq)
    cases hh : h q with
    | none => rfl
    | some o => have := E.fr h (List.mem_of_getElem? hi) q (by simp [hh]); omega⟩⟩
theorem Env.sub (E : Env w0 w l) (i : Nat) (hi : l[i]? = some h) : h.sub w := E.own.get i h hi
theorem Env.drop (E : Env w0 w l) (i : Nat) : Env w0 w (l.eraseIdx i) := ⟨E.own.erase i, fun k hk => E.fr k (List.mem_of_mem_eraseIdx hk), E.low⟩
theorem Env.arg (E : Env w0 w l) {k : Hp} (s : k.sub w0) : k.sub w := s.of_below E.low
/-- A new block. -/
theorem Upd.newBlock (w : World) (o : Obj) : Upd Hp.none (Hp.one w.heap.size o) w (w.alloc o) :=
  ⟨rfl, rfl, rfl, by simp, fun q hq _ => heap_old_at hq, Hp.one_sub (heap_new_at rfl), fun q hq => by
    right
    simp only [Hp.one] at hq
    split at hq
    · omega
    · exact absurd rfl hq⟩
theorem Hp.sub.free {h : Hp} {w : World} (s : h.sub w) {b : Nat} (hb : w.heap.size ≤ b) : h b = Option.none := by
  cases hh : h b with
  | none => rfl
  | some o => have := s.lt (b := b) (by simp [hh]); omega
/-- A new block that holds what was made before. -/
theorem Upd.put {o : Obj} (u : Upd Hp.none h' w w1) : Upd Hp.none (h'.put w1.heap.size o) w (w1.alloc o) :=
  ⟨u.os, u.tape, u.output, by simp; exact Nat.le_trans u.size (Nat.le_succ _), fun q hq hn => (heap_old_at (Nat.lt_of_lt_of_le hq u.size)).trans (u.keep q hq hn), Hp.put_sub (u.sub.of_below ((Below.refl _ _).alloc (Nat.le_refl _) _)) (heap_new_at rfl), fun q hq => by
    simp only [Hp.put] at hq
    split at hq
    · right; have := u.size; omega
    · exact u.dom q hq⟩
theorem Env.alloc (E : Env w0 w l) (o : Obj) : Env w0 (w.alloc o) (l ++ [Hp.one w.heap.size o]) := E.new (Upd.newBlock w o)
theorem Env.drew (E : Env w0 w l) : Env w0 w.drew l := E.below ((Below.refl _ _).drew)
theorem flatMap_len {α : Type} {size : Nat} {cells : α → List Value} (hl : ∀ x, (cells x).length = size) : ∀ xs : List α, (xs.flatMap cells).length = xs.length * size
  | [] => by simp
  | y :: ys => by simp only [List.flatMap_cons, List.length_append, hl, flatMap_len hl ys, List.length_cons, Nat.add_mul, Nat.one_mul]; omega
/-- A literal of flat elements in a new block, owned. -/
theorem Ow.lit {α : Type} {size : Nat} {cells : α → List Value} {pos : 0 < size} {hl : ∀ x, (cells x).length = size} {h1 : ∀ x, ∀ u ∈ cells x, u.oneCell' = true} {h : Hp} {b : Nat} {t : TypeId} {xs : List α}
    (hb : h b = some (.cells (xs.flatMap cells).toArray t (0, 0))) (hm : xs.length ≤ maxLen) : Ow (Kd.flat size cells pos hl h1) h (some ⟨b, 0, .none⟩) xs.length xs :=
  ⟨Nat.le_refl _, hm, (fun e => (nomatch e)), fun ad e _ => by
    cases e
    refine ⟨b, 0, _, t, rfl, hb, ?_, fun i x hx => ⟨cells x, rfl, fun j u hu => ?_⟩⟩
    · have := flatMap_len hl xs
      simp only [Kd.flat, List.size_toArray, this]; omega
    · rw [Nat.zero_add, List.getElem?_toArray]; exact flatMap_get hl xs i x hx j u hu⟩
end
end Go.Sl
