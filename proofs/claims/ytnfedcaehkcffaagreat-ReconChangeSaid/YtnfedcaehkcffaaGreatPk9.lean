/- Walks and plain facts that the laws of this seat share, part 9: contracts of functions, each said at its theorem. -/
import Derived.Test.YtnfedcaehkcffaaGreatPk8
import Derived.WalkKit
import Derived.Deep.RegionHeld3
import Derived.Deep.DeepCutAuto
import Derived.Deep.CutBlock
set_option linter.all false
section
/- A region that draws its order, by facts: of each operation one fact on its slot; each operation is shown once, whatever the order. No program is named here. -/
namespace Go.Sl
open Go Go.RowKit
def leftL : List Bool → Nat
  | [] => 0
  | b :: l => (if b = true then 0 else 1) + leftL l
theorem leftL_set : ∀ (l : List Bool) (i : Nat), l[i]? = some false → leftL (l.set i true) + 1 = leftL l
  | [], _, h => by simp at h
  | b :: l, 0, h => by
    simp at h; subst h; simp [leftL]; omega
  | b :: l, i + 1, h => by
    have := leftL_set l i (by simpa using h)
    simp only [List.set_cons_succ, leftL]; omega
theorem leftL_pos : ∀ (l : List Bool) (i : Nat), l[i]? = some false → 0 < leftL l
  | [], _, h => by simp at h
  | b :: l, 0, h => by simp at h; subst h; simp [leftL]; omega
  | b :: l, i + 1, h => by
    have := leftL_pos l i (by simpa using h)
    simp only [leftL]; omega
theorem leftL_rep : ∀ n : Nat, leftL (List.replicate n false) = n
  | 0 => rfl
  | n + 1 => by rw [List.replicate_succ]; simp only [leftL]; rw [leftL_rep n]; simp; omega
theorem getD_no {l : Array Bool} {i : Nat} (h : l.getD i true = false) : l.toList[i]? = some false := by
  rw [Array.getElem?_toList]
  rw [Array.getD_eq_getD_getElem?] at h
  cases hq : l[i]? with
  | none => rw [hq] at h; cases h
  | some b => rw [hq] at h; simp at h; rw [h]
section
variable {P : Program} {ops : Array Oper} {Q : Exit → Act → World → Prop} {md : Region.Mode}
theorem wpAny_inv (I : Array Bool → Act → World → Prop)
    (step : ∀ listed a w i, I listed a w → i ∈ Region.ready md ops listed → wpOp P ops Q i (fun a' w' => I (listed.setIfInBounds i true) a' w') a w)
    (fin : ∀ listed a w, I listed a w → Region.ready md ops listed = [] → Q .normal a w) :
    ∀ (fuel : Nat) (listed : Array Bool) (a : Act) (w : World), I listed a w → leftL listed.toList ≤ fuel → wpAny P md ops Q fuel listed a w
  | 0, listed, a, w, hI, hl => by
    have hr : Region.ready md ops listed = [] := List.eq_nil_iff_forall_not_mem.2 fun i hi => by
      have := leftL_pos _ i (getD_no (mem_ready.1 hi).1)
      omega
    exact ⟨hr, fin _ _ _ hI hr⟩
  | fuel + 1, listed, a, w, hI, hl => by
    refine ⟨fun h => fin _ _ _ hI h, fun i hi => wpOp_mono (fun a' w' h => wpAny_inv I step fin fuel _ a' w' h ?_) (step _ _ _ _ hI hi)⟩
    have := leftL_set _ i (getD_no (mem_ready.1 hi).1)
    rw [Array.toList_setIfInBounds]; omega
/-- Edges lead back. -/
def lowB (ops : Array Oper) : Bool := (List.range ops.size).all fun i => match ops[i]? with | some o => o.after.toList.all (fun e => decide (e.on < i)) | none => true
/-- Slots are each one operation's, and there. -/
def dstB (ops : Array Oper) (n : Nat) : Bool :=
  ((List.range ops.size).all fun i => (List.range ops.size).all fun j => decide (i = j) || (match ops[i]?, ops[j]? with | some x, some y => x.dst.isNone || decide (x.dst ≠ y.dst) | _, _ => true)) &&
  (List.range ops.size).all fun i => match ops[i]? with | some o => (match o.dst with | some d => decide (d < n) | none => true) | none => true
theorem lowB_spec (h : lowB ops = true) {i : Nat} {o : Oper} (ho : ops[i]? = some o) {e} (he : e ∈ o.after) : e.on < i := by
  unfold lowB at h
  have hi : i < ops.size := (Array.getElem?_eq_some_iff.1 ho).1
  have h1 := List.all_eq_true.1 h i (List.mem_range.2 hi)
  rw [ho] at h1
  have h2 := List.all_eq_true.1 h1 e (by simpa using he)
  simpa using h2
theorem dstB_apart {n : Nat} (h : dstB ops n = true) {i j : Nat} {o o' : Oper} (ho : ops[i]? = some o) (ho' : ops[j]? = some o') {d : Tmp} (hd : o.dst = some d) (hd' : o'.dst = some d) : i = j := by
  unfold dstB at h
  rw [Bool.and_eq_true] at h
  have hi : i < ops.size := (Array.getElem?_eq_some_iff.1 ho).1
  have hj : j < ops.size := (Array.getElem?_eq_some_iff.1 ho').1
  have h1 := List.all_eq_true.1 (List.all_eq_true.1 h.1 i (List.mem_range.2 hi)) j (List.mem_range.2 hj)
  rw [ho, ho'] at h1
  simp [hd, hd'] at h1
  exact h1
theorem dstB_in {n : Nat} (h : dstB ops n = true) {i : Nat} {o : Oper} (ho : ops[i]? = some o) {d : Tmp} (hd : o.dst = some d) : d < n := by
  unfold dstB at h
  rw [Bool.and_eq_true] at h
  have hi : i < ops.size := (Array.getElem?_eq_some_iff.1 ho).1
  have h1 := List.all_eq_true.1 h.2 i (List.mem_range.2 hi)
  rw [ho] at h1
  simp [hd] at h1
  exact h1
/-- What a region's frame keeps of the one it came with. -/
structure Keep (ops : Array Oper) (a0 a : Act) : Prop where
  size : a.tmps.size = a0.tmps.size
  defers : a.defers = a0.defers
  old : ∀ t : Tmp, (∀ (k : Nat) (o : Oper), ops[k]? = some o → o.dst ≠ some t) → a.eval (.tmp t) = a0.eval (.tmp t)
theorem put_eval_ne {a : Act} {dst : Option Tmp} {v : Value} {t : Tmp} (h : dst ≠ some t) : (a.put dst v).eval (.tmp t) = a.eval (.tmp t) := by
  cases dst with
  | none => rfl
  | some d =>
    have hne : d ≠ t := fun e => h (by rw [e])
    simp only [Act.put, Act.eval, Array.getD_eq_getD_getElem?]
    rw [Array.getElem?_setIfInBounds_ne hne]
theorem put_eval_eq {a : Act} {d : Tmp} {v : Value} (h : d < a.tmps.size) : (a.put (some d) v).eval (.tmp d) = v := by
  simp only [Act.put, Act.eval, Array.getD_eq_getD_getElem?]
  rw [Array.getElem?_setIfInBounds_self_of_lt h]; rfl
theorem put_size (a : Act) (dst : Option Tmp) (v : Value) : (a.put dst v).tmps.size = a.tmps.size := by
  cases dst <;> simp [Act.put]
theorem put_defers' (a : Act) (dst : Option Tmp) (v : Value) : (a.put dst v).defers = a.defers := by
  cases dst <;> rfl
/-- No operation writes this slot. -/
def keepB (ops : Array Oper) (t : Tmp) : Bool := ops.toList.all fun o => decide (o.dst ≠ some t)
theorem Keep.at {a0 a : Act} (kp : Keep ops a0 a) {t : Tmp} (h : keepB ops t = true) : a.tmps[t]?.getD undef = a0.tmps[t]?.getD undef := by
  have := kp.old t fun k o ho => by
    have h1 := List.all_eq_true.1 h o (by rw [← Array.getElem?_toList] at ho; exact List.mem_of_getElem? ho)
    simpa using h1
  simpa [Act.eval, Array.getD_eq_getD_getElem?] using this
theorem act_open {a : Act} {n : Nat} {ds : List Deferred} (hn : a.tmps.size = n) (hd : a.defers = ds) : a = ⟨((List.range n).map fun t => a.tmps[t]?.getD undef).toArray, ds⟩ := by
  cases a with
  | mk tm df =>
    simp only at hn hd
    subst hn hd
    congr 1
    apply Array.ext
    · simp
    · intro i h1 h2; simp [h1]
theorem eval_tmp (a : Act) (t : Tmp) : a.eval (.tmp t) = a.tmps[t]?.getD undef := by simp [Act.eval, Array.getD_eq_getD_getElem?]
/-- THE LAW. -/
theorem wp_region_facts {id : Nat} {a0 : Act} {w : World} (F : Nat → Value → World → Prop) (G : World → Prop)
    (hm : P.follows .mixedOrders = true) (hlow : lowB ops = true) (hdst : dstB ops a0.tmps.size = true) (hG : G w.drew)
    (hop : ∀ (i : Nat) (o : Oper), ops[i]? = some o → ∀ (a : Act) (w : World), G w → Keep ops a0 a →
      (∀ e ∈ o.after, Region.binds .any e = true → ∀ (o' : Oper) (d : Tmp), ops[e.on]? = some o' → o'.dst = some d → F e.on (a.eval (.tmp d)) w) →
      wpOp P ops Q i (fun a' w' => ∃ v, a' = a.put o.dst v ∧ (o.dst ≠ none → F i v w') ∧ G w' ∧ ∀ k v, F k v w → F k v w') a w)
    (hfin : ∀ (a : Act) (w : World), G w → Keep ops a0 a → (∀ (k : Nat) (o : Oper) (d : Tmp), ops[k]? = some o → o.dst = some d → F k (a.eval (.tmp d)) w) → Q .normal a w) :
    (Code.region id ops true).wp P Q a0 w := by
  refine wp_region_any hm ?_
  refine wpAny_inv (fun listed a w => listed.size = ops.size ∧ G w ∧ Keep ops a0 a ∧ ∀ (k : Nat) (o : Oper) (d : Tmp), ops[k]? = some o → o.dst = some d → listed.getD k false = true → F k (a.eval (.tmp d)) w) ?_ ?_ ops.size _ a0 _ ⟨by simp, hG, ⟨rfl, rfl, fun _ _ => rfl⟩, ?_⟩ (by rw [Array.toList_replicate, leftL_rep]; exact Nat.le_refl _)
  · intro listed a w i ⟨hs, g, kp, hf⟩ hi
    obtain ⟨hn, o, ho, hall⟩ := mem_ready.1 hi
    refine wpOp_mono ?_ (hop i o ho a w g kp fun e he hb o' d ho' hd' => hf _ _ _ ho' hd' (hall e he hb))
    rintro a' w' ⟨v, rfl, hv, g', hk⟩
    refine ⟨by simpa using hs, g', ⟨by rw [put_size]; exact kp.size, by rw [put_defers']; exact kp.defers, fun t ht => by rw [put_eval_ne (ht i o ho)]; exact kp.old t ht⟩, ?_⟩
    intro k o' d hk' hd' hl
    by_cases hik : i = k
    · subst hik
      rw [ho] at hk'
      cases hk'
      rw [hd', put_eval_eq (by rw [kp.size]; exact dstB_in hdst ho hd')]
      exact hv (by rw [hd']; simp)
    · have hne : o.dst ≠ some d := fun h => hik (dstB_apart hdst ho hk' h hd')
      rw [put_eval_ne hne]
      refine hk _ _ (hf k o' d hk' hd' ?_)
      rw [Array.getD_eq_getD_getElem?, Array.getElem?_setIfInBounds_ne hik, ← Array.getD_eq_getD_getElem?] at hl
      exact hl
  · intro listed a w ⟨hs, g, kp, hf⟩ hr
    have hall : ∀ i, i < ops.size → listed.getD i false = true := by
      intro i
      induction i using Nat.strongRecOn with
      | _ i ih =>
        intro hi
        cases hq : listed.getD i true with
        | true =>
          have hlt : i < listed.size := by omega
          rw [Array.getD_eq_getD_getElem?, Array.getElem?_eq_getElem hlt] at hq ⊢
          simpa using hq
        | false =>
          have hmem : i ∈ Region.ready .any ops listed := mem_ready.2 ⟨hq, ops[i], by simp [hi], fun e he _ => by
            have h1 := lowB_spec hlow (i := i) (o := ops[i]) (by simp [hi]) he
            exact ih _ h1 (by omega)⟩
          rw [hr] at hmem
          cases hmem
    exact hfin a w g kp fun k o d hk hd => hf k o d hk hd (hall k (Array.getElem?_eq_some_iff.1 hk).1)
  · intro k o d _ _ hl
    exfalso
    rw [Array.getD_eq_getD_getElem?, Array.getElem?_replicate] at hl
    split at hl <;> simp at hl
/-- The last operation waits for all others. -/
def lastB (ops : Array Oper) : Bool := match ops[ops.size - 1]? with
  | some o => (List.range (ops.size - 1)).all fun k => o.after.toList.any (fun e => Region.binds .any e && decide (e.on = k))
  | none => false
theorem lastB_spec (h : lastB ops = true) {o : Oper} (ho : ops[ops.size - 1]? = some o) {k : Nat} (hk : k < ops.size - 1) : ∃ e ∈ o.after, Region.binds .any e = true ∧ e.on = k := by
  unfold lastB at h
  rw [ho] at h
  obtain ⟨e, he, h2⟩ := List.any_eq_true.1 (List.all_eq_true.1 h k (List.mem_range.2 hk))
  rw [Bool.and_eq_true] at h2
  exact ⟨e, by simpa using he, h2.1, by simpa using h2.2⟩
/-- THE LAW, where the last operation (a store, most times) waits for all others: it is shown by itself. -/
theorem wp_region_facts_last {id : Nat} {a0 : Act} {w : World} (F : Nat → Value → World → Prop) (G : World → Prop)
    (hm : P.follows .mixedOrders = true) (hlow : lowB ops = true) (hdst : dstB ops a0.tmps.size = true) (hlast : lastB ops = true) (hG : G w.drew)
    (hop : ∀ (i : Nat) (o : Oper), i < ops.size - 1 → ops[i]? = some o → ∀ (a : Act) (w : World), G w → Keep ops a0 a →
      (∀ e ∈ o.after, Region.binds .any e = true → ∀ (o' : Oper) (d : Tmp), ops[e.on]? = some o' → o'.dst = some d → F e.on (a.eval (.tmp d)) w) →
      wpOp P ops Q i (fun a' w' => ∃ v, a' = a.put o.dst v ∧ (o.dst ≠ none → F i v w') ∧ G w' ∧ ∀ k v, F k v w → F k v w') a w)
    (hfin : ∀ (a : Act) (w : World), G w → Keep ops a0 a → (∀ (k : Nat) (o : Oper) (d : Tmp), k < ops.size - 1 → ops[k]? = some o → o.dst = some d → F k (a.eval (.tmp d)) w) → wpOp P ops Q (ops.size - 1) (fun a' w' => Q .normal a' w') a w) :
    (Code.region id ops true).wp P Q a0 w := by
  refine wp_region_any hm ?_
  have hpos : 0 < ops.size := by
    unfold lastB at hlast
    cases hq : ops[ops.size - 1]? with
    | none => rw [hq] at hlast; cases hlast
    | some o => have := (Array.getElem?_eq_some_iff.1 hq).1; omega
  refine wpAny_inv (fun listed a w => (listed.size = ops.size ∧ listed.getD (ops.size - 1) true = false ∧ G w ∧ Keep ops a0 a ∧ ∀ (k : Nat) (o : Oper) (d : Tmp), ops[k]? = some o → o.dst = some d → listed.getD k false = true → F k (a.eval (.tmp d)) w) ∨ ((∀ k, k < ops.size → listed.getD k true = true) ∧ Q .normal a w)) ?_ ?_ ops.size _ a0 _ (.inl ⟨by simp, ?_, hG, ⟨rfl, rfl, fun _ _ => rfl⟩, ?_⟩) (by rw [Array.toList_replicate, leftL_rep]; exact Nat.le_refl _)
  · intro listed a w i hI hi
    obtain ⟨hn, o, ho, hall⟩ := mem_ready.1 hi
    have hin : i < ops.size := (Array.getElem?_eq_some_iff.1 ho).1
    rcases hI with ⟨hs, hl0, g, kp, hf⟩ | ⟨hx, _⟩
    · by_cases hil : i = ops.size - 1
      · subst hil
        refine wpOp_mono ?_ (hfin a w g kp fun k o' d hk ho' hd' => ?_)
        · intro a' w' hq
          refine .inr ⟨fun k hk => ?_, hq⟩
          by_cases hkl : ops.size - 1 = k
          · subst hkl
            rw [Array.getD_eq_getD_getElem?, Array.getElem?_setIfInBounds_self_of_lt (by omega)]; rfl
          · obtain ⟨e, he, hb, rfl⟩ := lastB_spec hlast ho (k := k) (by omega)
            have h1 := hall e he hb
            rw [Array.getD_eq_getD_getElem?, Array.getElem?_setIfInBounds_ne hkl]
            rw [Array.getD_eq_getD_getElem?] at h1
            cases hq : listed[e.on]? with
            | none => rfl
            | some b => rw [hq] at h1; exact h1
        · obtain ⟨e, he, hb, rfl⟩ := lastB_spec hlast ho (k := k) hk
          exact hf _ _ _ ho' hd' (hall e he hb)
      · refine wpOp_mono ?_ (hop i o (by omega) ho a w g kp fun e he hb o' d ho' hd' => hf _ _ _ ho' hd' (hall e he hb))
        rintro a' w' ⟨v, rfl, hv, g', hk⟩
        refine .inl ⟨by simpa using hs, by rw [Array.getD_eq_getD_getElem?, Array.getElem?_setIfInBounds_ne hil, ← Array.getD_eq_getD_getElem?]; exact hl0, g', ⟨by rw [put_size]; exact kp.size, by rw [put_defers']; exact kp.defers, fun t ht => by rw [put_eval_ne (ht i o ho)]; exact kp.old t ht⟩, ?_⟩
        intro k o' d hk' hd' hl
        by_cases hik : i = k
        · subst hik
          rw [ho] at hk'
          cases hk'
          rw [hd', put_eval_eq (by rw [kp.size]; exact dstB_in hdst ho hd')]
          exact hv (by rw [hd']; simp)
        · have hne : o.dst ≠ some d := fun h => hik (dstB_apart hdst ho hk' h hd')
          rw [put_eval_ne hne]
          refine hk _ _ (hf k o' d hk' hd' ?_)
          rw [Array.getD_eq_getD_getElem?, Array.getElem?_setIfInBounds_ne hik, ← Array.getD_eq_getD_getElem?] at hl
          exact hl
    · have := hx i hin
      rw [this] at hn; cases hn
  · intro listed a w hI hr
    rcases hI with ⟨hs, hl0, g, kp, hf⟩ | ⟨_, hq⟩
    · exfalso
      have hall : ∀ i, i < ops.size → listed.getD i true = true := by
        intro i
        induction i using Nat.strongRecOn with
        | _ i ih =>
          intro hi
          cases hq : listed.getD i true with
          | true => rfl
          | false =>
            have hmem : i ∈ Region.ready .any ops listed := mem_ready.2 ⟨hq, ops[i], by simp [hi], fun e he _ => by
              have h1 := lowB_spec hlow (i := i) (o := ops[i]) (by simp [hi]) he
              have h2 := ih _ h1 (by omega)
              have hlt : e.on < listed.size := by omega
              rw [Array.getD_eq_getD_getElem?, Array.getElem?_eq_getElem hlt] at h2 ⊢
              simpa using h2⟩
            rw [hr] at hmem
            cases hmem
      rw [hall _ (by omega)] at hl0
      cases hl0
    · exact hq
  · rw [Array.getD_eq_getD_getElem?, Array.getElem?_replicate, if_pos (by omega)]; rfl
  · intro k o d _ _ hl
    exfalso
    rw [Array.getD_eq_getD_getElem?, Array.getElem?_replicate] at hl
    split at hl <;> simp at hl
end
end Go.Sl
end
section
/- The walk of play.Input. -/
namespace Go.Sl
open Go Go.RowKit
def inF (w : World) (b5 b4 m : Nat) (y : Nat → Int) (js : ByteArray) (p u7 u10 u13 u16 u19 u22 u25 : Int) (T7 T72 : TypeId) (k : Nat) (v : Value) (V : World) : Prop := match k with
  | 0 => ∃ bs, v = .slice (some ⟨bs, 0, none⟩) 2 2 ∧ V.cell? ⟨bs, m, none⟩ = some (.string js)
  | 4 => ∃ bs, v = .pointer (some ⟨bs, m, none⟩) ∧ V.cell? ⟨bs, m, none⟩ = some (.string js)
  | 27 => ∃ b6, v = .pointer (some ⟨b6, 0, none⟩) ∧ Env w V [Hp.box b4 [.string ⟨#[]⟩, .int .i64 0, .int .i64 0, .int .i64 0, .int .i64 0, .int .i64 0, .int .i64 0, .int .i64 0] T72, Hp.box b5 [.int .i64 (y 0), .int .i64 (y 1), .int .i64 (y 2), .int .i64 (y 3), .int .i64 (y 4), .int .i64 (y 5), .int .i64 (y 6)] T7, Hp.box b6 [.string ⟨#[]⟩, .int .i64 0, .int .i64 0, .int .i64 0, .int .i64 0, .int .i64 0, .int .i64 0, .int .i64 0] T72]
  | 1 => v = .pointer (some ⟨b5, 0, none⟩)
  | 2 => v = .int .i64 (y 0)
  | 3 => v = .int .i64 (m : Int)
  | 5 => v = .string js
  | 6 => v = .int .i64 p
  | 7 => v = .int .i64 u7
  | 8 => v = .pointer (some ⟨b5, 1, none⟩)
  | 9 => v = .int .i64 (y 1)
  | 10 => v = .int .i64 u10
  | 11 => v = .pointer (some ⟨b5, 2, none⟩)
  | 12 => v = .int .i64 (y 2)
  | 13 => v = .int .i64 u13
  | 14 => v = .pointer (some ⟨b5, 3, none⟩)
  | 15 => v = .int .i64 (y 3)
  | 16 => v = .int .i64 u16
  | 17 => v = .pointer (some ⟨b5, 4, none⟩)
  | 18 => v = .int .i64 (y 4)
  | 19 => v = .int .i64 u19
  | 20 => v = .pointer (some ⟨b5, 5, none⟩)
  | 21 => v = .int .i64 (y 5)
  | 22 => v = .int .i64 u22
  | 23 => v = .pointer (some ⟨b5, 6, none⟩)
  | 24 => v = .int .i64 (y 6)
  | 25 => v = .int .i64 u25
  | 26 => v = .agg #[.string js, .int .i64 u7, .int .i64 u10, .int .i64 u13, .int .i64 u16, .int .i64 u19, .int .i64 u22, .int .i64 u25]
  | _ => True
theorem inF_below {w : World} {b5 b4 m : Nat} {y : Nat → Int} {js : ByteArray} {p u7 u10 u13 u16 u19 u22 u25 : Int} {T7 T72 : TypeId} {k : Nat} {v : Value} {V V' : World} (B : Below V.heap.size V V') (h : inF w b5 b4 m y js p u7 u10 u13 u16 u19 u22 u25 T7 T72 k v V) : inF w b5 b4 m y js p u7 u10 u13 u16 u19 u22 u25 T7 T72 k v V' := by
  match k, h with
  | 0, h => obtain ⟨bs, h1, h2⟩ := h; exact ⟨bs, h1, (B.cell (World.block_lt_of_cell? _ _ h2)).trans h2⟩
  | 4, h => obtain ⟨bs, h1, h2⟩ := h; exact ⟨bs, h1, (B.cell (World.block_lt_of_cell? _ _ h2)).trans h2⟩
  | 27, h => obtain ⟨bs, h1, h2⟩ := h; exact ⟨bs, h1, h2.below B⟩
  | 1, h => exact h
  | 2, h => exact h
  | 3, h => exact h
  | 5, h => exact h
  | 6, h => exact h
  | 7, h => exact h
  | 8, h => exact h
  | 9, h => exact h
  | 10, h => exact h
  | 11, h => exact h
  | 12, h => exact h
  | 13, h => exact h
  | 14, h => exact h
  | 15, h => exact h
  | 16, h => exact h
  | 17, h => exact h
  | 18, h => exact h
  | 19, h => exact h
  | 20, h => exact h
  | 21, h => exact h
  | 22, h => exact h
  | 23, h => exact h
  | 24, h => exact h
  | 25, h => exact h
  | 26, h => exact h
  | k + 28, h => trivial
structure SInp where
  j : ByteArray
  per : Int
  book : Int
  perm : Int
  judge : Int
  cap : Int
  life : Int
  up : Int
def SInp.cells (x : SInp) : List Value := [.string x.j, .int .i64 x.per, .int .i64 x.book, .int .i64 x.perm, .int .i64 x.judge, .int .i64 x.cap, .int .i64 x.life, .int .i64 x.up]
def inOf (p : Int) (zs : List Int) : SInp := ⟨if within (sevOf zs 0) 2 = 0 then ukS else deS, if p.tmod 31 = 30 then p else within p 20, amount (sevOf zs 1), amount (sevOf zs 2), rateOf (sevOf zs 3), rateOf (sevOf zs 4), within (sevOf zs 5) 5, amount (sevOf zs 6)⟩
def InAns (x : SInp) (w : World) (e : Ending) (w' : World) : Prop := e = .returned (.agg x.cells.toArray) ∧ Below w.heap.size w w' 
end Go.Sl
namespace Go.Proofs.YtnfedcaehkcffaaGreat
open Go.RowKit Go.Sl
set_option maxHeartbeats 1000000
set_option maxRecDepth 100000
theorem playInput_calls (p : Int) (A : Option Addr) (ca : Nat) (zs : List Int) (k : Hp) (w : World) (hs : k.sub w) (sx : Sl kInt k A ca zs) (hz : ∀ k, k < 7 → I64 (sevOf zs k)) :
    Calls Tryz.prog 35 #[.int .i64 p, .slice A zs.length ca] w (InAns (inOf p zs) w) := by
  have m1 := sx.small
  have SC := fun (W : World) (hW : Below w.heap.size w W) => seven_calls A ca zs k W (hs.of_below hW) sx
  have E1 := (Env.start w).alloc (.cells #[.string ⟨#[]⟩, .int .i64 0, .int .i64 0, .int .i64 0, .int .i64 0, .int .i64 0, .int .i64 0, .int .i64 0] 82)
  simp at E1
  go_enter Tryz.func35, Tryz.ntmps35
  go_wp2_with fail
  refine (SC _ E1.low).mono ?_
  rintro e w1 ⟨rfl, B1⟩
  have E2 := E1.below B1
  go_upto_region 2 with fail
  clear SC
  have HI : inOf p zs = ⟨if within (sevOf zs 0) 2 = 0 then ukS else deS, if p.tmod 31 = 30 then p else within p 20, amount (sevOf zs 1), amount (sevOf zs 2), rateOf (sevOf zs 3), rateOf (sevOf zs 4), within (sevOf zs 5) 5, amount (sevOf zs 6)⟩ := rfl
  obtain ⟨y, hy⟩ : ∃ y, y = sevOf zs := ⟨_, rfl⟩
  rw [← hy] at HI
  rw [← hy] at hz
  rw [← hy]
  clear hy
  have E3 := E2.alloc (.cells #[.int .i64 (y 0), .int .i64 (y 1), .int .i64 (y 2), .int .i64 (y 3), .int .i64 (y 4), .int .i64 (y 5), .int .i64 (y 6)] 144)
  simp at E3
  obtain ⟨b5, hb5⟩ : ∃ b, w1.heap.size = b := ⟨_, rfl⟩
  rw [hb5] at E3
  have HB := Below.refl w.heap.size w
  rw [hb5]
  have WC := fun W => within_calls (y 0) 2 W (by omega) (by omega)
  have W7 := fun W => within_calls p 20 W (by omega) (by omega)
  have W22 := fun W => within_calls (y 5) 5 W (by omega) (by omega)
  have A10 := fun W => amount_calls (y 1) (hz 1 (by omega)) W
  have A13 := fun W => amount_calls (y 2) (hz 2 (by omega)) W
  have A25 := fun W => amount_calls (y 6) (hz 6 (by omega)) W
  have R16 := fun W => playRate_calls (y 3) W
  have R19 := fun W => playRate_calls (y 4) W
  obtain ⟨m, hm, hm2⟩ : ∃ m : Nat, within (y 0) 2 = (m : Int) ∧ m < 2 := ⟨(within (y 0) 2).toNat, by have := within_lo (y 0) (n := 2) (by omega); omega, by have := within_lo (y 0) (n := 2) (by omega); have := within_hi (y 0) (n := 2) (by omega); omega⟩
  rw [hm] at WC
  obtain ⟨js, hjs, hj2⟩ : ∃ js : ByteArray, (∀ W : World, (W.alloc (.cells #[.string ukS, .string deS] 9)).cell? ⟨W.heap.size, m, none⟩ = some (.string js)) ∧ (if (m : Int) = 0 then ukS else deS) = js := by
    rcases (show m = 0 ∨ m = 1 by omega) with rfl | rfl
    · exact ⟨_, fun W => (cell_new rfl).trans rfl, rfl⟩
    · exact ⟨_, fun W => (cell_new rfl).trans rfl, rfl⟩
  rw [hm, hj2] at HI
  have im1 : (0 : Int) ≤ (m : Int) := by omega
  have im2 : (m : Int) < 2 := by omega
  generalize within p 20 = u7 at *
  generalize within (y 5) 5 = u22 at *
  generalize amount (y 1) = u10 at *
  generalize amount (y 2) = u13 at *
  generalize amount (y 6) = u25 at *
  generalize rateOf (y 3) = u16 at *
  generalize rateOf (y 4) = u19 at *
  clear hz hm hb5 E2 B1 E1 hj2
  have HS : Hid (∀ (pp : Int) (W' : World), pp = (if p.tmod 31 = 30 then p else u7) → Below w.heap.size w W' → InAns (inOf p zs) w (.returned (.agg #[.string js, .int .i64 pp, .int .i64 u10, .int .i64 u13, .int .i64 u16, .int .i64 u19, .int .i64 u22, .int .i64 u25])) W') := fun pp W' h1 h2 => ⟨by rw [HI, h1]; rfl, h2⟩
  clear HI
  refine wp_region_facts_last (F := inF w b5 w.heap.size m y js p u7 u10 u13 u16 u19 u22 u25 144 82) (G := fun V => Env w V [Hp.box w.heap.size [.string ⟨#[]⟩, .int .i64 0, .int .i64 0, .int .i64 0, .int .i64 0, .int .i64 0, .int .i64 0, .int .i64 0] 82, Hp.box b5 [.int .i64 (y 0), .int .i64 (y 1), .int .i64 (y 2), .int .i64 (y 3), .int .i64 (y 4), .int .i64 (y 5), .int .i64 (y 6)] 144]) (by kernel_rfl) (by kernel_rfl) (by kernel_rfl) (by kernel_rfl) ?_ ?_ ?_
  · exact E3.drew
  · intro i o hi ho a V g kp hd
    have B0 := Below.refl V.heap.size V
    match i, hi, ho with
    | 0, hi, ho =>
      simp at ho
      subst ho
      refine wpOp_step (o := _) rfl ?_
      intro K' hK'
      rw [if_pos (by rfl)]
      go_simp
      have B1 := B0.alloc (Nat.le_refl _) (.cells #[.string ukS, .string deS] 9)
      exact hK' _ _ ⟨_, rfl, fun _ => ⟨_, rfl, hjs V⟩, g.below B1, fun k v h => inF_below B1 h⟩
    | 1, hi, ho =>
      simp at ho
      subst ho
      have h5 : a.tmps[5]?.getD undef = .pointer (some ⟨b5, 0, none⟩) := (kp.at (t := 5) (by kernel_rfl)).trans rfl
      refine wpOp_step (o := _) rfl ?_
      intro K' hK'
      rw [if_pos (by rfl)]
      go_simp
      exact hK' _ _ ⟨_, rfl, fun _ => rfl, g, fun k v h => h⟩
    | 2, hi, ho =>
      simp at ho
      subst ho
      have h10 : a.tmps[10]?.getD undef = .pointer (some ⟨b5, 0, none⟩) := (eval_tmp a 10).symm.trans (hd ⟨1, .data⟩ (by simp) rfl _ _ rfl rfl)
      have c0 := g.cell 1 rfl 0 rfl
      refine wpOp_step (o := _) rfl ?_
      intro K' hK'
      rw [if_pos (by rfl)]
      go_simp
      exact hK' _ _ ⟨_, rfl, fun _ => rfl, g, fun k v h => h⟩
    | 3, hi, ho =>
      simp at ho
      subst ho
      have h11 : a.tmps[11]?.getD undef = .int .i64 (y 0) := (eval_tmp a 11).symm.trans (hd ⟨2, .data⟩ (by simp) rfl _ _ rfl rfl)
      refine wpOp_step (o := _) rfl ?_
      intro K' hK'
      rw [if_pos (by rfl)]
      go_simp
      refine (WC _).mono ?_
      rintro e w' ⟨rfl, rfl⟩
      exact hK' _ _ ⟨_, rfl, fun _ => rfl, g, fun k v h => h⟩
    | 4, hi, ho =>
      simp at ho
      subst ho
      obtain ⟨bs, e9, hc⟩ := hd ⟨0, .data⟩ (by simp) rfl _ _ rfl rfl
      have h9 := (eval_tmp a 9).symm.trans e9
      clear e9
      have h12 : a.tmps[12]?.getD undef = .int .i64 (m : Int) := (eval_tmp a 12).symm.trans (hd ⟨3, .data⟩ (by simp) rfl _ _ rfl rfl)
      refine wpOp_step (o := _) rfl ?_
      intro K' hK'
      rw [if_pos (by rfl)]
      go_simp
      exact hK' _ _ ⟨_, rfl, fun _ => ⟨bs, rfl, hc⟩, g, fun k v h => h⟩
    | 5, hi, ho =>
      simp at ho
      subst ho
      obtain ⟨bs, e13, hc⟩ := hd ⟨4, .data⟩ (by simp) rfl _ _ rfl rfl
      have h13 := (eval_tmp a 13).symm.trans e13
      clear e13
      refine wpOp_step (o := _) rfl ?_
      intro K' hK'
      rw [if_pos (by rfl)]
      go_simp
      exact hK' _ _ ⟨_, rfl, fun _ => rfl, g, fun k v h => h⟩
    | 6, hi, ho =>
      simp at ho
      subst ho
      have h0 : a.tmps[0]?.getD undef = .int .i64 p := (kp.at (t := 0) (by kernel_rfl)).trans rfl
      refine wpOp_step (o := _) rfl ?_
      intro K' hK'
      rw [if_pos (by rfl)]
      go_simp
      exact hK' _ _ ⟨_, rfl, fun _ => rfl, g, fun k v h => h⟩
    | 7, hi, ho =>
      simp at ho
      subst ho
      have h15 : a.tmps[15]?.getD undef = .int .i64 p := (eval_tmp a 15).symm.trans (hd ⟨6, .data⟩ (by simp) rfl _ _ rfl rfl)
      refine wpOp_step (o := _) rfl ?_
      intro K' hK'
      rw [if_pos (by rfl)]
      go_simp
      refine (W7 _).mono ?_
      rintro e w' ⟨rfl, rfl⟩
      exact hK' _ _ ⟨_, rfl, fun _ => rfl, g, fun k v h => h⟩
    | 8, hi, ho =>
      simp at ho
      subst ho
      have h5 : a.tmps[5]?.getD undef = .pointer (some ⟨b5, 0, none⟩) := (kp.at (t := 5) (by kernel_rfl)).trans rfl
      refine wpOp_step (o := _) rfl ?_
      intro K' hK'
      rw [if_pos (by rfl)]
      go_simp
      exact hK' _ _ ⟨_, rfl, fun _ => rfl, g, fun k v h => h⟩
    | 9, hi, ho =>
      simp at ho
      subst ho
      have h17 : a.tmps[17]?.getD undef = .pointer (some ⟨b5, 1, none⟩) := (eval_tmp a 17).symm.trans (hd ⟨8, .data⟩ (by simp) rfl _ _ rfl rfl)
      have c1 := g.cell 1 rfl 1 rfl
      refine wpOp_step (o := _) rfl ?_
      intro K' hK'
      rw [if_pos (by rfl)]
      go_simp
      exact hK' _ _ ⟨_, rfl, fun _ => rfl, g, fun k v h => h⟩
    | 10, hi, ho =>
      simp at ho
      subst ho
      have h18 : a.tmps[18]?.getD undef = .int .i64 (y 1) := (eval_tmp a 18).symm.trans (hd ⟨9, .data⟩ (by simp) rfl _ _ rfl rfl)
      refine wpOp_step (o := _) rfl ?_
      intro K' hK'
      rw [if_pos (by rfl)]
      go_simp
      refine (A10 _).mono ?_
      rintro e w' ⟨rfl, rfl⟩
      exact hK' _ _ ⟨_, rfl, fun _ => rfl, g, fun k v h => h⟩
    | 11, hi, ho =>
      simp at ho
      subst ho
      have h5 : a.tmps[5]?.getD undef = .pointer (some ⟨b5, 0, none⟩) := (kp.at (t := 5) (by kernel_rfl)).trans rfl
      refine wpOp_step (o := _) rfl ?_
      intro K' hK'
      rw [if_pos (by rfl)]
      go_simp
      exact hK' _ _ ⟨_, rfl, fun _ => rfl, g, fun k v h => h⟩
    | 12, hi, ho =>
      simp at ho
      subst ho
      have h20 : a.tmps[20]?.getD undef = .pointer (some ⟨b5, 2, none⟩) := (eval_tmp a 20).symm.trans (hd ⟨11, .data⟩ (by simp) rfl _ _ rfl rfl)
      have c2 := g.cell 1 rfl 2 rfl
      refine wpOp_step (o := _) rfl ?_
      intro K' hK'
      rw [if_pos (by rfl)]
      go_simp
      exact hK' _ _ ⟨_, rfl, fun _ => rfl, g, fun k v h => h⟩
    | 13, hi, ho =>
      simp at ho
      subst ho
      have h21 : a.tmps[21]?.getD undef = .int .i64 (y 2) := (eval_tmp a 21).symm.trans (hd ⟨12, .data⟩ (by simp) rfl _ _ rfl rfl)
      refine wpOp_step (o := _) rfl ?_
      intro K' hK'
      rw [if_pos (by rfl)]
      go_simp
      refine (A13 _).mono ?_
      rintro e w' ⟨rfl, rfl⟩
      exact hK' _ _ ⟨_, rfl, fun _ => rfl, g, fun k v h => h⟩
    | 14, hi, ho =>
      simp at ho
      subst ho
      have h5 : a.tmps[5]?.getD undef = .pointer (some ⟨b5, 0, none⟩) := (kp.at (t := 5) (by kernel_rfl)).trans rfl
      refine wpOp_step (o := _) rfl ?_
      intro K' hK'
      rw [if_pos (by rfl)]
      go_simp
      exact hK' _ _ ⟨_, rfl, fun _ => rfl, g, fun k v h => h⟩
    | 15, hi, ho =>
      simp at ho
      subst ho
      have h23 : a.tmps[23]?.getD undef = .pointer (some ⟨b5, 3, none⟩) := (eval_tmp a 23).symm.trans (hd ⟨14, .data⟩ (by simp) rfl _ _ rfl rfl)
      have c3 := g.cell 1 rfl 3 rfl
      refine wpOp_step (o := _) rfl ?_
      intro K' hK'
      rw [if_pos (by rfl)]
      go_simp
      exact hK' _ _ ⟨_, rfl, fun _ => rfl, g, fun k v h => h⟩
    | 16, hi, ho =>
      simp at ho
      subst ho
      have h24 : a.tmps[24]?.getD undef = .int .i64 (y 3) := (eval_tmp a 24).symm.trans (hd ⟨15, .data⟩ (by simp) rfl _ _ rfl rfl)
      refine wpOp_step (o := _) rfl ?_
      intro K' hK'
      rw [if_pos (by rfl)]
      go_simp
      refine (R16 _).mono ?_
      rintro e w' ⟨rfl, B1⟩
      exact hK' _ _ ⟨_, rfl, fun _ => rfl, g.below B1, fun k v h => inF_below B1 h⟩
    | 17, hi, ho =>
      simp at ho
      subst ho
      have h5 : a.tmps[5]?.getD undef = .pointer (some ⟨b5, 0, none⟩) := (kp.at (t := 5) (by kernel_rfl)).trans rfl
      refine wpOp_step (o := _) rfl ?_
      intro K' hK'
      rw [if_pos (by rfl)]
      go_simp
      exact hK' _ _ ⟨_, rfl, fun _ => rfl, g, fun k v h => h⟩
    | 18, hi, ho =>
      simp at ho
      subst ho
      have h26 : a.tmps[26]?.getD undef = .pointer (some ⟨b5, 4, none⟩) := (eval_tmp a 26).symm.trans (hd ⟨17, .data⟩ (by simp) rfl _ _ rfl rfl)
      have c4 := g.cell 1 rfl 4 rfl
      refine wpOp_step (o := _) rfl ?_
      intro K' hK'
      rw [if_pos (by rfl)]
      go_simp
      exact hK' _ _ ⟨_, rfl, fun _ => rfl, g, fun k v h => h⟩
    | 19, hi, ho =>
      simp at ho
      subst ho
      have h27 : a.tmps[27]?.getD undef = .int .i64 (y 4) := (eval_tmp a 27).symm.trans (hd ⟨18, .data⟩ (by simp) rfl _ _ rfl rfl)
      refine wpOp_step (o := _) rfl ?_
      intro K' hK'
      rw [if_pos (by rfl)]
      go_simp
      refine (R19 _).mono ?_
      rintro e w' ⟨rfl, B1⟩
      exact hK' _ _ ⟨_, rfl, fun _ => rfl, g.below B1, fun k v h => inF_below B1 h⟩
    | 20, hi, ho =>
      simp at ho
      subst ho
      have h5 : a.tmps[5]?.getD undef = .pointer (some ⟨b5, 0, none⟩) := (kp.at (t := 5) (by kernel_rfl)).trans rfl
      refine wpOp_step (o := _) rfl ?_
      intro K' hK'
      rw [if_pos (by rfl)]
      go_simp
      exact hK' _ _ ⟨_, rfl, fun _ => rfl, g, fun k v h => h⟩
    | 21, hi, ho =>
      simp at ho
      subst ho
      have h29 : a.tmps[29]?.getD undef = .pointer (some ⟨b5, 5, none⟩) := (eval_tmp a 29).symm.trans (hd ⟨20, .data⟩ (by simp) rfl _ _ rfl rfl)
      have c5 := g.cell 1 rfl 5 rfl
      refine wpOp_step (o := _) rfl ?_
      intro K' hK'
      rw [if_pos (by rfl)]
      go_simp
      exact hK' _ _ ⟨_, rfl, fun _ => rfl, g, fun k v h => h⟩
    | 22, hi, ho =>
      simp at ho
      subst ho
      have h30 : a.tmps[30]?.getD undef = .int .i64 (y 5) := (eval_tmp a 30).symm.trans (hd ⟨21, .data⟩ (by simp) rfl _ _ rfl rfl)
      refine wpOp_step (o := _) rfl ?_
      intro K' hK'
      rw [if_pos (by rfl)]
      go_simp
      refine (W22 _).mono ?_
      rintro e w' ⟨rfl, rfl⟩
      exact hK' _ _ ⟨_, rfl, fun _ => rfl, g, fun k v h => h⟩
    | 23, hi, ho =>
      simp at ho
      subst ho
      have h5 : a.tmps[5]?.getD undef = .pointer (some ⟨b5, 0, none⟩) := (kp.at (t := 5) (by kernel_rfl)).trans rfl
      refine wpOp_step (o := _) rfl ?_
      intro K' hK'
      rw [if_pos (by rfl)]
      go_simp
      exact hK' _ _ ⟨_, rfl, fun _ => rfl, g, fun k v h => h⟩
    | 24, hi, ho =>
      simp at ho
      subst ho
      have h32 : a.tmps[32]?.getD undef = .pointer (some ⟨b5, 6, none⟩) := (eval_tmp a 32).symm.trans (hd ⟨23, .data⟩ (by simp) rfl _ _ rfl rfl)
      have c6 := g.cell 1 rfl 6 rfl
      refine wpOp_step (o := _) rfl ?_
      intro K' hK'
      rw [if_pos (by rfl)]
      go_simp
      exact hK' _ _ ⟨_, rfl, fun _ => rfl, g, fun k v h => h⟩
    | 25, hi, ho =>
      simp at ho
      subst ho
      have h33 : a.tmps[33]?.getD undef = .int .i64 (y 6) := (eval_tmp a 33).symm.trans (hd ⟨24, .data⟩ (by simp) rfl _ _ rfl rfl)
      refine wpOp_step (o := _) rfl ?_
      intro K' hK'
      rw [if_pos (by rfl)]
      go_simp
      refine (A25 _).mono ?_
      rintro e w' ⟨rfl, rfl⟩
      exact hK' _ _ ⟨_, rfl, fun _ => rfl, g, fun k v h => h⟩
    | 26, hi, ho =>
      simp at ho
      subst ho
      have h14 : a.tmps[14]?.getD undef = .string js := (eval_tmp a 14).symm.trans (hd ⟨5, .data⟩ (by simp) rfl _ _ rfl rfl)
      have h16 : a.tmps[16]?.getD undef = .int .i64 u7 := (eval_tmp a 16).symm.trans (hd ⟨7, .data⟩ (by simp) rfl _ _ rfl rfl)
      have h19 : a.tmps[19]?.getD undef = .int .i64 u10 := (eval_tmp a 19).symm.trans (hd ⟨10, .data⟩ (by simp) rfl _ _ rfl rfl)
      have h22 : a.tmps[22]?.getD undef = .int .i64 u13 := (eval_tmp a 22).symm.trans (hd ⟨13, .data⟩ (by simp) rfl _ _ rfl rfl)
      have h25 : a.tmps[25]?.getD undef = .int .i64 u16 := (eval_tmp a 25).symm.trans (hd ⟨16, .data⟩ (by simp) rfl _ _ rfl rfl)
      have h28 : a.tmps[28]?.getD undef = .int .i64 u19 := (eval_tmp a 28).symm.trans (hd ⟨19, .data⟩ (by simp) rfl _ _ rfl rfl)
      have h31 : a.tmps[31]?.getD undef = .int .i64 u22 := (eval_tmp a 31).symm.trans (hd ⟨22, .data⟩ (by simp) rfl _ _ rfl rfl)
      have h34 : a.tmps[34]?.getD undef = .int .i64 u25 := (eval_tmp a 34).symm.trans (hd ⟨25, .data⟩ (by simp) rfl _ _ rfl rfl)
      refine wpOp_step (o := _) rfl ?_
      intro K' hK'
      rw [if_pos (by rfl)]
      go_simp
      exact hK' _ _ ⟨_, rfl, fun _ => rfl, g, fun k v h => h⟩
    | 27, hi, ho =>
      simp at ho
      subst ho
      refine wpOp_step (o := _) rfl ?_
      intro K' hK'
      rw [if_pos (by rfl)]
      go_simp
      have B1 := B0.alloc (Nat.le_refl _) (.cells #[.string ⟨#[]⟩, .int .i64 0, .int .i64 0, .int .i64 0, .int .i64 0, .int .i64 0, .int .i64 0, .int .i64 0] 82)
      have E6 := g.alloc (.cells #[.string ⟨#[]⟩, .int .i64 0, .int .i64 0, .int .i64 0, .int .i64 0, .int .i64 0, .int .i64 0, .int .i64 0] 82)
      simp at E6
      exact hK' _ _ ⟨_, rfl, fun _ => ⟨_, rfl, E6⟩, g.below B1, fun k v h => inF_below B1 h⟩
    | k + 28, hi, ho => exact absurd hi (by simp)
  · intro a V g kp hf
    obtain ⟨b6, e6, E⟩ := hf 27 _ 6 (by simp) rfl rfl
    have h6 := (eval_tmp a 6).symm.trans e6
    have h35 := (eval_tmp a 35).symm.trans (hf 26 _ 35 (by simp) rfl rfl)
    have h0 : a.tmps[0]?.getD undef = .int .i64 p := (kp.at (t := 0) (by kernel_rfl)).trans rfl
    have h4 : a.tmps[4]?.getD undef = .pointer (some ⟨w.heap.size, 0, none⟩) := (kp.at (t := 4) (by kernel_rfl)).trans rfl
    have ha := act_open (n := 42) (ds := []) (kp.size.trans rfl) (kp.defers.trans rfl)
    rw [show List.range 42 = [0, 1, 2, 3, 4, 5, 6, 7, 8, 9, 10, 11, 12, 13, 14, 15, 16, 17, 18, 19, 20, 21, 22, 23, 24, 25, 26, 27, 28, 29, 30, 31, 32, 33, 34, 35, 36, 37, 38, 39, 40, 41] from rfl] at ha
    simp only [List.map_cons, List.map_nil] at ha
    rw [h0, h4, h6, h35] at ha
    clear kp hf e6 h6 h35 h0 h4
    generalize a.tmps[1]?.getD undef = x1 at ha
    generalize a.tmps[2]?.getD undef = x2 at ha
    generalize a.tmps[3]?.getD undef = x3 at ha
    generalize a.tmps[5]?.getD undef = x5 at ha
    generalize a.tmps[7]?.getD undef = x7 at ha
    generalize a.tmps[8]?.getD undef = x8 at ha
    generalize a.tmps[9]?.getD undef = x9 at ha
    generalize a.tmps[10]?.getD undef = x10 at ha
    generalize a.tmps[11]?.getD undef = x11 at ha
    generalize a.tmps[12]?.getD undef = x12 at ha
    generalize a.tmps[13]?.getD undef = x13 at ha
    generalize a.tmps[14]?.getD undef = x14 at ha
    generalize a.tmps[15]?.getD undef = x15 at ha
    generalize a.tmps[16]?.getD undef = x16 at ha
    generalize a.tmps[17]?.getD undef = x17 at ha
    generalize a.tmps[18]?.getD undef = x18 at ha
    generalize a.tmps[19]?.getD undef = x19 at ha
    generalize a.tmps[20]?.getD undef = x20 at ha
    generalize a.tmps[21]?.getD undef = x21 at ha
    generalize a.tmps[22]?.getD undef = x22 at ha
    generalize a.tmps[23]?.getD undef = x23 at ha
    generalize a.tmps[24]?.getD undef = x24 at ha
    generalize a.tmps[25]?.getD undef = x25 at ha
    generalize a.tmps[26]?.getD undef = x26 at ha
    generalize a.tmps[27]?.getD undef = x27 at ha
    generalize a.tmps[28]?.getD undef = x28 at ha
    generalize a.tmps[29]?.getD undef = x29 at ha
    generalize a.tmps[30]?.getD undef = x30 at ha
    generalize a.tmps[31]?.getD undef = x31 at ha
    generalize a.tmps[32]?.getD undef = x32 at ha
    generalize a.tmps[33]?.getD undef = x33 at ha
    generalize a.tmps[34]?.getD undef = x34 at ha
    generalize a.tmps[36]?.getD undef = x36 at ha
    generalize a.tmps[37]?.getD undef = x37 at ha
    generalize a.tmps[38]?.getD undef = x38 at ha
    generalize a.tmps[39]?.getD undef = x39 at ha
    generalize a.tmps[40]?.getD undef = x40 at ha
    generalize a.tmps[41]?.getD undef = x41 at ha
    subst ha
    refine wpOp_step (o := _) rfl ?_
    intro K' hK'
    rw [if_pos (by rfl)]
    refine wp_store_mid 82 _ _ rfl b6 0 _ rfl rfl (E.there 2 rfl _ rfl) (by kernel_rfl) (by simp [Value.oneCell']) ?_
    refine hK' _ _ ?_
    refine ‹∀ (a : Act) (w : World), Code.wp _ _ _ a w → _› _ _ ?_
    have E7 := E.setAll 2 rfl [.string js, .int .i64 u7, .int .i64 u10, .int .i64 u13, .int .i64 u16, .int .i64 u19, .int .i64 u22, .int .i64 u25] rfl
    simp only [List.set_cons_zero, List.set_cons_succ] at E7
    clear E g hK' K'
    dsimp only [Act.put]
    generalize V.setCells b6 0 _ = W at *
    have q1 := E7.cell 2 rfl 1 rfl
    have qf := fun k => E7.free 2 rfl k
    by_cases h31 : p.tmod 31 = 30
    · have t31 : (p.tmod 31 == 30) = true := by simpa using h31
      have HS2 := Lib.hid (HS.out p)
      rw [if_pos h31] at HS2
      have E8 := E7.cellset 2 rfl 1 (.int .i64 p)
      simp only [List.set_cons_zero, List.set_cons_succ] at E8
      clear HS h31
      go_wp2_with (first
        | (refine wpList_load_mid rfl 82 _ rfl b6 0 rfl _ _ (E8.range 2 rfl) Tryz.underlying82 rfl (by kernel_rfl) ?_)
        | (refine wpList_store_mid rfl 82 _ _ rfl w.heap.size 0 _ rfl rfl (E8.there 0 rfl _ rfl) (by kernel_rfl) (by simp [Value.oneCell']) ?_))
      clear q1 qf
      have EN := E8.setAll 0 rfl [.string js, .int .i64 p, .int .i64 u10, .int .i64 u13, .int .i64 u16, .int .i64 u19, .int .i64 u22, .int .i64 u25] rfl
      simp only [List.set_cons_zero] at EN
      have d0 := EN.cell 0 rfl 0 rfl
      have d1 := EN.cell 0 rfl 1 rfl
      have d2 := EN.cell 0 rfl 2 rfl
      have d3 := EN.cell 0 rfl 3 rfl
      have d4 := EN.cell 0 rfl 4 rfl
      have d5 := EN.cell 0 rfl 5 rfl
      have d6 := EN.cell 0 rfl 6 rfl
      have d7 := EN.cell 0 rfl 7 rfl
      generalize World.setCells (W.setCell ⟨b6, 1, none⟩ (.int .i64 p)) w.heap.size 0 _ = W9 at *
      refine bodyPost_ret (v := .agg #[.string js, .int .i64 p, .int .i64 u10, .int .i64 u13, .int .i64 u16, .int .i64 u19, .int .i64 u22, .int .i64 u25]) ?_ rfl (HS2.out _ (by first | trivial | rfl) EN.low)
      simp [results, Tryz.results35, go_sem, d0, d1, d2, d3, d4, d5, d6, d7]
    · have t31 : (p.tmod 31 == 30) = false := by simpa using h31
      have HS2 := Lib.hid (HS.out u7)
      rw [if_neg h31] at HS2
      clear HS h31 q1 qf
      go_wp2_with (first
        | (refine wpList_load_mid rfl 82 _ rfl b6 0 rfl _ _ (E7.range 2 rfl) Tryz.underlying82 rfl (by kernel_rfl) ?_)
        | (refine wpList_store_mid rfl 82 _ _ rfl w.heap.size 0 _ rfl rfl (E7.there 0 rfl _ rfl) (by kernel_rfl) (by simp [Value.oneCell']) ?_))
      have EN := E7.setAll 0 rfl [.string js, .int .i64 u7, .int .i64 u10, .int .i64 u13, .int .i64 u16, .int .i64 u19, .int .i64 u22, .int .i64 u25] rfl
      simp only [List.set_cons_zero] at EN
      have d0 := EN.cell 0 rfl 0 rfl
      have d1 := EN.cell 0 rfl 1 rfl
      have d2 := EN.cell 0 rfl 2 rfl
      have d3 := EN.cell 0 rfl 3 rfl
      have d4 := EN.cell 0 rfl 4 rfl
      have d5 := EN.cell 0 rfl 5 rfl
      have d6 := EN.cell 0 rfl 6 rfl
      have d7 := EN.cell 0 rfl 7 rfl
      generalize W.setCells w.heap.size 0 _ = W9 at *
      refine bodyPost_ret (v := .agg #[.string js, .int .i64 u7, .int .i64 u10, .int .i64 u13, .int .i64 u16, .int .i64 u19, .int .i64 u22, .int .i64 u25]) ?_ rfl (HS2.out _ (by first | trivial | rfl) EN.low)
      simp [results, Tryz.results35, go_sem, d0, d1, d2, d3, d4, d5, d6, d7]
end Go.Proofs.YtnfedcaehkcffaaGreat
end
section
/- A provision, plain. No program is named here. -/
namespace Go.Sl
open Go Go.RowKit
/-- What a close leaves behind. -/
structure SBal where
  per : Int
  xs : List STri
  rs : List Int
  nx : Int
  lf : Int
  tm : Int
  ls : Int
  al : Int
def balNone : SBal := ⟨-1, [], [], 0, 0, 0, 0, 0⟩
/-- What may stand at the opening of a period. -/
structure GoodB (o : SBal) : Prop where
  reg : GoodR o.xs
  len : o.rs.length = o.xs.length
  rs : ∀ r ∈ o.rs, rightRate r = true
  nx : rightRate o.nx = true
  lf : 0 ≤ o.lf ∧ o.lf ≤ 100000000000
  tm : money o.tm = true
  ls : 0 ≤ o.ls ∧ o.ls ≤ 100000000000
  al : -100000000000 ≤ o.al ∧ o.al ≤ 0
theorem GoodB.none : GoodB balNone := ⟨GoodR.nil, rfl, by simp [balNone], rfl, by simp [balNone], rfl, by simp [balNone], by simp [balNone]⟩
/-- What a close is made of: the rates, the input, the opening, the losses, the register. -/
structure SArg where
  t : List SRate
  x : SInp
  o : SBal
  v : List STri
  r : List STri
/-- The rate of a row at the opening. -/
def oldOf (o : SBal) (w : SWay) (n : Int) : Int :=
  match o.xs.findIdx? (fun b => b.a == w.cls && b.b == w.yr) with
  | some k => o.rs[k]?.getD n
  | none => n
namespace SArg
variable (a : SArg)
def yr : Int := yearOf a.x.per
def rt : Int := rateV a.t a.x.j a.yr a.x.per
def nx : Int := nextV a.t a.x.j a.x.per
def rats : List Int := ratL a.t a.x.j a.r a.x.per
def rows : List SWay := fwd a.o.xs a.r
def mov : Int := movSum a.rows
def inc : Int := incV a.x.book a.x.perm a.mov
def vec : List Int := curVec a.v a.inc a.x.cap a.yr
def left : List STri := curNext a.v a.inc a.x.cap a.x.life a.yr
def lf : Int := sumC a.left
def tm : Int := meaN a.r a.rats
def ls : Int := shareV a.lf a.nx
def al : Int := -shareV a.ls a.x.judge
def wb : List STri := a.rows.map fun w => ⟨w.cls, w.yr, 0⟩
def now : List Int := ratL a.t a.x.j a.wb a.x.per
def was : List Int := List.zipWith (oldOf a.o) a.rows a.now
def mo : Int := remMo a.rows a.was a.now
def ra : Int := remRa a.rows a.was a.now
def lr : Int := ofVal a.o.lf a.o.nx - ofVal a.o.lf a.nx
def lm : Int := a.o.ls - a.ls - a.lr
def am : Int := a.o.al - a.al
def df : Int := a.mo + a.ra + a.lm + a.lr + a.am
def txb : Int := curTaxable a.v a.inc a.x.cap a.yr
def tax : Int := ofVal a.txb a.rt
def tot : Int := a.tax + a.df + a.x.up
def costs : List Int := [a.lm, a.lr, a.am, a.tax + a.x.up, a.tm - a.o.tm, a.ls - a.o.ls, a.al - a.o.al, a.df, a.tot]
def argOk : Bool := perOk a.x.per && (rightRate a.x.judge && money a.x.up)
def knownE : Int := if rateB a.t a.x.j a.yr a.x.per = false then 7 else if nextE a.t a.x.j a.x.per ≠ 0 then nextE a.t a.x.j a.x.per else ratE a.t a.x.j a.r a.x.per
def taxE : Int := curE a.v a.x.book a.x.perm a.mov a.x.cap a.x.life a.yr a.rt
def balE : Int := if meaE a.r a.rats ≠ 0 then meaE a.r a.rats else if shareE a.lf a.nx ≠ 0 then shareE a.lf a.nx else shareE a.ls a.x.judge
def chgE : Int := if ratE a.t a.x.j a.wb a.x.per ≠ 0 then ratE a.t a.x.j a.wb a.x.per else remE a.rows a.was a.now
def costE : Int := if a.costs.all money = true then 0 else 6
def makE : Int := if a.argOk = false then 1 else if a.knownE ≠ 0 then a.knownE else if a.taxE ≠ 0 then a.taxE else if a.balE ≠ 0 then a.balE else if a.chgE ≠ 0 then a.chgE else a.costE
/-- The balances behind a close. -/
def clo : SBal := ⟨a.x.per, a.r, a.rats, a.nx, a.lf, a.tm, a.ls, a.al⟩
end SArg
/-- What is given to a close. -/
structure GoodA (a : SArg) : Prop where
  t : GoodT a.t
  o : GoodB a.o
  v : GoodV a.v
  r : GoodR a.r
theorem shareE_zero {n r : Int} (h : shareE n r = 0) : 0 ≤ n ∧ n ≤ 100000000000 ∧ 0 ≤ r ∧ r ≤ 1000000 := by
  unfold shareE at h
  split at h
  · rename_i h2
    simp only [Bool.and_eq_true, decide_eq_true_eq, money, rightRate] at h2
    omega
  · exact absurd h (by decide)
theorem shareV_rng (n r : Int) : 0 ≤ shareV n r ∧ shareV n r ≤ 100000000000 ∧ shareV n r ≤ max n 0 := by
  by_cases h : shareE n r = 0
  · have h2 := shareE_zero h
    have e : ofOk n r = true := by simp [ofOk]; omega
    have h1 : 0 ≤ n * r := Int.mul_nonneg h2.1 h2.2.2.1
    have h3 : n * r ≤ n * 1000000 := Int.mul_le_mul_of_nonneg_left h2.2.2.2 h2.1
    have h5 := partOf_pos h2.1 h2.2.2.1
    unfold shareV ofVal
    rw [if_pos h, if_pos e, h5]
    omega
  · unfold shareV
    rw [if_neg h]; omega
theorem shareV_bd {n r : Int} : 0 ≤ shareV n r ∧ shareV n r ≤ 100000000000 := ⟨(shareV_rng n r).1, (shareV_rng n r).2.1⟩
theorem nextV_bd {t : List SRate} (g : GoodT t) {j : ByteArray} {p : Int} : rightRate (nextV t j p) = true := by
  unfold nextV; split
  · exact rateV_bd g
  · rfl
theorem meaN_money {bs : List STri} {rs : List Int} : money (meaN bs rs) = true := by
  have := meaN_bd bs rs
  simp [money]; omega
theorem remMo_money {rows : List SWay} {os ns : List Int} : money (remMo rows os ns) = true ∧ money (remRa rows os ns) = true := by
  by_cases h : remE rows os ns = 0
  · obtain ⟨e1, e2⟩ := remMo_zero h
    rw [e1, e2]
    unfold remE at h
    split at h
    · exact absurd h (by decide)
    · split at h
      · exact absurd h (by decide)
      · split at h
        · exact absurd h (by decide)
        · rename_i h3
          simpa using h3
  · unfold remMo remRa
    rw [if_neg h, if_neg h]
    exact ⟨rfl, rfl⟩
section
variable {a : SArg}
theorem GoodA.left (g : GoodA a) : GoodV a.left := g.v.cur _ _ _ _
theorem GoodV.sum_lo {l : List STri} (g : GoodV l) : 0 ≤ sumC l := by
  have : ∀ l : List STri, (∀ x ∈ l, 1 ≤ x.c) → 0 ≤ sumC l := by
    intro l
    induction l with
    | nil => intro _; simp [sumC]
    | cons y l ih =>
      intro h
      have h1 := ih fun x hx => h x (by simp [hx])
      have h2 := h y (by simp)
      simp only [sumC, List.map_cons, List.sum_cons] at h1 ⊢; omega
  exact this l g.lo
theorem GoodA.clo (g : GoodA a) : GoodB a.clo where
  reg := g.r
  len := by simp [SArg.clo, SArg.rats, ratL]
  rs := ratL_right g.t
  nx := nextV_bd g.t
  lf := ⟨g.left.sum_lo, g.left.mon⟩
  tm := meaN_money
  ls := shareV_bd
  al := by have := shareV_bd (n := a.ls) (r := a.x.judge); simp only [SArg.clo, SArg.al]; omega
theorem SArg.wb_len : a.wb.length = a.rows.length := by simp [SArg.wb]
theorem GoodA.rows_len (g : GoodA a) : a.rows.length ≤ 24 := by
  have h1 := fwd_len a.o.xs a.r
  have h2 := g.o.reg.len
  have h3 := g.r.len
  unfold SArg.rows; omega
theorem GoodA.now_len (_g : GoodA a) : a.now.length = a.rows.length := by simp [SArg.now, ratL, SArg.wb]
theorem GoodA.was_len (_g : GoodA a) : a.was.length = a.rows.length := by simp [SArg.was, SArg.now, ratL, SArg.wb]
end
end Go.Sl
end
section
/- Losses are conserved, plain. No program is named here. -/
namespace Go.Sl.CL
open Go Go.RowKit
variable {l : List STri}
theorem exp_sum (l : List STri) (y : Int) : vGone l y + sumC (vExp l y) = sumC l := sumC_filter (overV y)
theorem gone_pos (g : GoodV l) (y : Int) : 0 ≤ vGone l y ∧ vGone l y ≤ 100000000000 := by
  have h1 := sumC_pos (l := l.filter (overV y)) fun x hx => g.lo x (List.mem_filter.1 hx).1
  have h2 := sumC_pos (l := vExp l y) fun x hx => (g.exp y).lo x hx
  have h3 := exp_sum l y
  have h4 := g.mon
  unfold vGone at *; omega
theorem kept (g : GoodV l) {inc cap life year : Int} (hE : inc < 0 → vAddE (vExp l year) year (year + life) (-inc) = 0) :
    sumC l + curNew inc = sumC (curNext l inc cap life year) + (curVec l inc cap year).sum + vGone l year := by
  have hx := exp_sum l year
  have gx := g.exp year
  unfold curNext curNew
  by_cases h : 0 < inc
  · rw [if_pos h, if_neg (by omega)]
    obtain ⟨h1, h2⟩ := curVec_take (most := cap) (year := year) g h
    have : sumC (vTake (vExp l year) (curVec l inc cap year)) = sumC (vExp l year) - (curVec l inc cap year).sum := by
      unfold vTake; rw [if_pos h2, sumC_nz, sumC_less _ _ h1]
    omega
  · rw [if_neg h]
    have hV : curVec l inc cap year = [] := by unfold curVec; rw [if_neg h]
    rw [hV]
    by_cases h2 : inc < 0
    · rw [if_pos h2, if_pos h2]
      have : sumC (vAdd (vExp l year) year (year + life) (-inc)) = sumC (vExp l year) + -inc := by
        unfold vAdd; rw [if_pos (hE h2), sumC_put gx.rise]; omega
      simp; omega
    · rw [if_neg h2, if_neg h2]; simp; omega
theorem signs (g : GoodV l) {inc cap year : Int} (hc : 0 ≤ cap ∧ cap ≤ 1000000) (hi : -12000 ≤ inc ∧ inc ≤ 12000) :
    0 ≤ (curVec l inc cap year).sum ∧ (curVec l inc cap year).sum ≤ 12000 ∧ 0 ≤ curNew inc ∧ curNew inc ≤ 12000 ∧ 0 ≤ curTaxable l inc cap year ∧ curTaxable l inc cap year ≤ 12000 ∧
    (0 < inc → curTaxable l inc cap year = inc - (curVec l inc cap year).sum ∧ curNew inc = 0 ∧ (curVec l inc cap year).sum * 1000000 ≤ inc * cap) ∧
    (inc ≤ 0 → curTaxable l inc cap year = 0 ∧ curNew inc = -inc ∧ curVec l inc cap year = []) := by
  obtain ⟨b1, b2, b3⟩ := curVec_bd g inc cap year
  by_cases h : 0 < inc
  · have hN : curNew inc = 0 := by unfold curNew; rw [if_neg (by omega)]
    have b4 := b2 h
    have hT : curTaxable l inc cap year = inc - (curVec l inc cap year).sum := by unfold curTaxable; rw [hN]; omega
    have hm : (curVec l inc cap year).sum * 1000000 ≤ inc * cap := by
      have gx := g.exp year
      have hp : 0 ≤ inc * cap := Int.mul_nonneg (by omega) hc.1
      have hr : roomV inc cap = inc * cap / 1000000 := by
        unfold roomV floorV
        rw [if_neg (by omega), if_pos (by simp [floorOk]; omega), Int.tdiv_eq_ediv_of_nonneg hp]
      have hv := vecGo_bd year (vExp l year) (max 0 (roomV inc cap)) (fun x hx => by have := gx.lo x hx; omega) (by omega)
      have he : curVec l inc cap year = vecGo year (vExp l year) (max 0 (roomV inc cap)) := by unfold curVec; rw [if_pos h]
      rw [he]
      have h2 := hv.2.1
      rw [hr] at h2 ⊢
      omega
    exact ⟨b1, by omega, by omega, by omega, by omega, by omega, fun _ => ⟨hT, hN, hm⟩, fun h' => absurd h (by omega)⟩
  · have hV : curVec l inc cap year = [] := by unfold curVec; rw [if_neg h]
    have hN : curNew inc = -inc := by unfold curNew; split <;> omega
    have hT : curTaxable l inc cap year = 0 := by unfold curTaxable; rw [hV, hN]; simp; omega
    rw [hT, hN, hV]
    exact ⟨by simp, by simp, by omega, by omega, by omega, by omega, fun h' => absurd h' h, fun _ => ⟨rfl, rfl, rfl⟩⟩
theorem tax {tx r : Int} (h : 0 ≤ tx ∧ tx ≤ 12000) (hr : 0 ≤ r ∧ r ≤ 1000000) : 0 ≤ ofVal tx r ∧ ofVal tx r ≤ tx ∧ 0 ≤ tx * r ∧ tx * r ≤ 12000000000 ∧ -1000000 ≤ 2 * (tx * r - ofVal tx r * 1000000) ∧ 2 * (tx * r - ofVal tx r * 1000000) ≤ 1000000 := by
  have h1 : 0 ≤ tx * r := Int.mul_nonneg h.1 hr.1
  have h2 : tx * r ≤ tx * 1000000 := Int.mul_le_mul_of_nonneg_left hr.2 h.1
  unfold ofVal
  rw [if_pos (by simp [ofOk]; omega), partOf_pos h.1 hr.1]
  generalize tx * r = p at *
  omega
theorem err (g : GoodV l) {b p m cap life year r : Int} (ha : curArg cap life year r = true) (hi : incOk b p m = true) (hib : -12000 ≤ incV b p m ∧ incV b p m ≤ 12000) (hy : 0 ≤ year ∧ year ≤ 9) (hl : 0 ≤ life ∧ life ≤ 5) (h0 : curE l b p m cap life year r ≠ 0) : curE l b p m cap life year r = 5 ∨ curE l b p m cap life year r = 6 := by
  unfold curE at *
  rw [if_neg (by simp [ha]), if_neg (by simp [hi])] at *
  split at h0
  · rename_i hn
    rw [if_pos hn]
    unfold vAddE at *
    rw [if_neg (by simp [vOk, money]; omega)] at *
    split
    · exact .inr rfl
    · rename_i h2
      rw [if_neg h2] at h0
      split
      · rename_i h3; rw [if_pos h3] at h0; exact absurd rfl h0
      · rename_i h3
        rw [if_neg h3] at h0
        split
        · exact .inl rfl
        · rename_i h4; rw [if_neg h4] at h0; exact absurd rfl h0
  · exact absurd rfl h0
end Go.Sl.CL
end
