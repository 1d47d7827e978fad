/- Walks and plain facts that the laws of this seat share, part 6: contracts of functions, each said at its theorem. -/
import Derived.Test.YtdcfojohgcmpcaaPk5
import Derived.WalkKit
import Derived.Deep.RegionHeld3
set_option linter.all false
section
/- A region that draws its order, by facts: of each operation one fact on its slot; each operation is shown once, whatever the order. No program is named here. -/
namespace Go.Sl
open Go Go.RowKit
def leftL : List Bool → Nat
  | [] => 0
  | b :: l => (if b = true then 0 else 1) + leftL l
theorem leftL_set : ∀ (l : List Bool) (i : Nat), l[i]? = some false → leftL (l.set i true) + 1 = leftL l
  | [], _, h => by simp at h
  | b :: l, 0, h => by
    simp at h; subst h; simp [leftL]; omega
  | b :: l, i + 1, h => by
    have := leftL_set l i (by simpa using h)
    simp only [List.set_cons_succ, leftL]; omega
theorem leftL_pos : ∀ (l : List Bool) (i : Nat), l[i]? = some false → 0 < leftL l
  | [], _, h => by simp at h
  | b :: l, 0, h => by simp at h; subst h; simp [leftL]; omega
  | b :: l, i + 1, h => by
    have := leftL_pos l i (by simpa using h)
    simp only [leftL]; omega
theorem leftL_rep : ∀ n : Nat, leftL (List.replicate n false) = n
  | 0 => rfl
  | n + 1 => by rw [List.replicate_succ]; simp only [leftL]; rw [leftL_rep n]; simp; omega
theorem getD_no {l : Array Bool} {i : Nat} (h : l.getD i true = false) : l.toList[i]? = some false := by
  rw [Array.getElem?_toList]
  rw [Array.getD_eq_getD_getElem?] at h
  cases hq : l[i]? with
  | none => rw [hq] at h; cases h
  | some b => rw [hq] at h; simp at h; rw [h]
section
variable {P : Program} {ops : Array Oper} {Q : Exit → Act → World → Prop} {md : Region.Mode}
theorem wpAny_inv (I : Array Bool → Act → World → Prop)
    (step : ∀ listed a w i, I listed a w → i ∈ Region.ready md ops listed → wpOp P ops Q i (fun a' w' => I (listed.setIfInBounds i true) a' w') a w)
    (fin : ∀ listed a w, I listed a w → Region.ready md ops listed = [] → Q .normal a w) :
    ∀ (fuel : Nat) (listed : Array Bool) (a : Act) (w : World), I listed a w → leftL listed.toList ≤ fuel → wpAny P md ops Q fuel listed a w
  | 0, listed, a, w, hI, hl => by
    have hr : Region.ready md ops listed = [] := List.eq_nil_iff_forall_not_mem.2 fun i hi => by
      have := leftL_pos _ i (getD_no (mem_ready.1 hi).1)
      omega
    exact ⟨hr, fin _ _ _ hI hr⟩
  | fuel + 1, listed, a, w, hI, hl => by
    refine ⟨fun h => fin _ _ _ hI h, fun i hi => wpOp_mono (fun a' w' h => wpAny_inv I step fin fuel _ a' w' h ?_) (step _ _ _ _ hI hi)⟩
    have := leftL_set _ i (getD_no (mem_ready.1 hi).1)
    rw [Array.toList_setIfInBounds]; omega
/-- Edges lead back. -/
def lowB (ops : Array Oper) : Bool := (List.range ops.size).all fun i => match ops[i]? with | some o => o.after.toList.all (fun e => decide (e.on < i)) | none => true
/-- Slots are each one operation's, and there. -/
def dstB (ops : Array Oper) (n : Nat) : Bool :=
  ((List.range ops.size).all fun i => (List.range ops.size).all fun j => decide (i = j) || (match ops[i]?, ops[j]? with | some x, some y => x.dst.isNone || decide (x.dst ≠ y.dst) | _, _ => true)) &&
  (List.range ops.size).all fun i => match ops[i]? with | some o => (match o.dst with | some d => decide (d < n) | none => true) | none => true
theorem lowB_spec (h : lowB ops = true) {i : Nat} {o : Oper} (ho : ops[i]? = some o) {e} (he : e ∈ o.after) : e.on < i := by
  unfold lowB at h
  have hi : i < ops.size := (Array.getElem?_eq_some_iff.1 ho).1
  have h1 := List.all_eq_true.1 h i (List.mem_range.2 hi)
  rw [ho] at h1
  have h2 := List.all_eq_true.1 h1 e (by simpa using he)
  simpa using h2
theorem dstB_apart {n : Nat} (h : dstB ops n = true) {i j : Nat} {o o' : Oper} (ho : ops[i]? = some o) (ho' : ops[j]? = some o') {d : Tmp} (hd : o.dst = some d) (hd' : o'.dst = some d) : i = j := by
  unfold dstB at h
  rw [Bool.and_eq_true] at h
  have hi : i < ops.size := (Array.getElem?_eq_some_iff.1 ho).1
  have hj : j < ops.size := (Array.getElem?_eq_some_iff.1 ho').1
  have h1 := List.all_eq_true.1 (List.all_eq_true.1 h.1 i (List.mem_range.2 hi)) j (List.mem_range.2 hj)
  rw [ho, ho'] at h1
  simp [hd, hd'] at h1
  exact h1
theorem dstB_in {n : Nat} (h : dstB ops n = true) {i : Nat} {o : Oper} (ho : ops[i]? = some o) {d : Tmp} (hd : o.dst = some d) : d < n := by
  unfold dstB at h
  rw [Bool.and_eq_true] at h
  have hi : i < ops.size := (Array.getElem?_eq_some_iff.1 ho).1
  have h1 := List.all_eq_true.1 h.2 i (List.mem_range.2 hi)
  rw [ho] at h1
  simp [hd] at h1
  exact h1
/-- What a region's frame keeps of the one it came with. -/
structure Keep (ops : Array Oper) (a0 a : Act) : Prop where
  size : a.tmps.size = a0.tmps.size
  defers : a.defers = a0.defers
  old : ∀ t : Tmp, (∀ (k : Nat) (o : Oper), ops[k]? = some o → o.dst ≠ some t) → a.eval (.tmp t) = a0.eval (.tmp t)
theorem put_eval_ne {a : Act} {dst : Option Tmp} {v : Value} {t : Tmp} (h : dst ≠ some t) : (a.put dst v).eval (.tmp t) = a.eval (.tmp t) := by
  cases dst with
  | none => rfl
  | some d =>
    have hne : d ≠ t := fun e => h (by rw [e])
    simp only [Act.put, Act.eval, Array.getD_eq_getD_getElem?]
    rw [Array.getElem?_setIfInBounds_ne hne]
theorem put_eval_eq {a : Act} {d : Tmp} {v : Value} (h : d < a.tmps.size) : (a.put (some d) v).eval (.tmp d) = v := by
  simp only [Act.put, Act.eval, Array.getD_eq_getD_getElem?]
  rw [Array.getElem?_setIfInBounds_self_of_lt h]; rfl
theorem put_size (a : Act) (dst : Option Tmp) (v : Value) : (a.put dst v).tmps.size = a.tmps.size := by
  cases dst <;> simp [Act.put]
theorem put_defers' (a : Act) (dst : Option Tmp) (v : Value) : (a.put dst v).defers = a.defers := by
  cases dst <;> rfl
/-- No operation writes this slot. -/
def keepB (ops : Array Oper) (t : Tmp) : Bool := ops.toList.all fun o => decide (o.dst ≠ some t)
theorem Keep.at {a0 a : Act} (kp : Keep ops a0 a) {t : Tmp} (h : keepB ops t = true) : a.tmps[t]?.getD undef = a0.tmps[t]?.getD undef := by
  have := kp.old t fun k o ho => by
    have h1 := List.all_eq_true.1 h o (by rw [← Array.getElem?_toList] at ho; exact List.mem_of_getElem? ho)
    simpa using h1
  simpa [Act.eval, Array.getD_eq_getD_getElem?] using this
theorem act_open {a : Act} {n : Nat} {ds : List Deferred} (hn : a.tmps.size = n) (hd : a.defers = ds) : a = ⟨((List.range n).map fun t => a.tmps[t]?.getD undef).toArray, ds⟩ := by
  cases a with
  | mk tm df =>
    simp only at hn hd
    subst hn hd
    congr 1
    apply Array.ext
    · simp
    · intro i h1 h2; simp [h1]
theorem eval_tmp (a : Act) (t : Tmp) : a.eval (.tmp t) = a.tmps[t]?.getD undef := by simp [Act.eval, Array.getD_eq_getD_getElem?]
/-- THE LAW. -/
theorem wp_region_facts {id : Nat} {a0 : Act} {w : World} (F : Nat → Value → World → Prop) (G : World → Prop)
    (hm : P.follows .mixedOrders = true) (hlow : lowB ops = true) (hdst : dstB ops a0.tmps.size = true) (hG : G w.drew)
    (hop : ∀ (i : Nat) (o : Oper), ops[i]? = some o → ∀ (a : Act) (w : World), G w → Keep ops a0 a →
      (∀ e ∈ o.after, Region.binds .any e = true → ∀ (o' : Oper) (d : Tmp), ops[e.on]? = some o' → o'.dst = some d → F e.on (a.eval (.tmp d)) w) →
      wpOp P ops Q i (fun a' w' => ∃ v, a' = a.put o.dst v ∧ (o.dst ≠ none → F i v w') ∧ G w' ∧ ∀ k v, F k v w → F k v w') a w)
    (hfin : ∀ (a : Act) (w : World), G w → Keep ops a0 a → (∀ (k : Nat) (o : Oper) (d : Tmp), ops[k]? = some o → o.dst = some d → F k (a.eval (.tmp d)) w) → Q .normal a w) :
    (Code.region id ops true).wp P Q a0 w := by
  refine wp_region_any hm ?_
  refine wpAny_inv (fun listed a w => listed.size = ops.size ∧ G w ∧ Keep ops a0 a ∧ ∀ (k : Nat) (o : Oper) (d : Tmp), ops[k]? = some o → o.dst = some d → listed.getD k false = true → F k (a.eval (.tmp d)) w) ?_ ?_ ops.size _ a0 _ ⟨by simp, hG, ⟨rfl, rfl, fun _ _ => rfl⟩, ?_⟩ (by rw [Array.toList_replicate, leftL_rep]; exact Nat.le_refl _)
  · intro listed a w i ⟨hs, g, kp, hf⟩ hi
    obtain ⟨hn, o, ho, hall⟩ := mem_ready.1 hi
    refine wpOp_mono ?_ (hop i o ho a w g kp fun e he hb o' d ho' hd' => hf _ _ _ ho' hd' (hall e he hb))
    rintro a' w' ⟨v, rfl, hv, g', hk⟩
    refine ⟨by simpa using hs, g', ⟨by rw [put_size]; exact kp.size, by rw [put_defers']; exact kp.defers, fun t ht => by rw [put_eval_ne (ht i o ho)]; exact kp.old t ht⟩, ?_⟩
    intro k o' d hk' hd' hl
    by_cases hik : i = k
    · subst hik
      rw [ho] at hk'
      cases hk'
      rw [hd', put_eval_eq (by rw [kp.size]; exact dstB_in hdst ho hd')]
      exact hv (by rw [hd']; simp)
    · have hne : o.dst ≠ some d := fun h => hik (dstB_apart hdst ho hk' h hd')
      rw [put_eval_ne hne]
      refine hk _ _ (hf k o' d hk' hd' ?_)
      rw [Array.getD_eq_getD_getElem?, Array.getElem?_setIfInBounds_ne hik, ← Array.getD_eq_getD_getElem?] at hl
      exact hl
  · intro listed a w ⟨hs, g, kp, hf⟩ hr
    have hall : ∀ i, i < ops.size → listed.getD i false = true := by
      intro i
      induction i using Nat.strongRecOn with
      | _ i ih =>
        intro hi
        cases hq : listed.getD i true with
        | true =>
          have hlt : i < listed.size := by omega
          rw [Array.getD_eq_getD_getElem?, Array.getElem?_eq_getElem hlt] at hq ⊢
          simpa using hq
        | false =>
          have hmem : i ∈ Region.ready .any ops listed := mem_ready.2 ⟨hq, ops[i], by simp [hi], fun e he _ => by
            have h1 := lowB_spec hlow (i := i) (o := ops[i]) (by simp [hi]) he
            exact ih _ h1 (by omega)⟩
          rw [hr] at hmem
          cases hmem
    exact hfin a w g kp fun k o d hk hd => hf k o d hk hd (hall k (Array.getElem?_eq_some_iff.1 hk).1)
  · intro k o d _ _ hl
    exfalso
    rw [Array.getD_eq_getD_getElem?, Array.getElem?_replicate] at hl
    split at hl <;> simp at hl
/-- The last operation waits for all others. -/
def lastB (ops : Array Oper) : Bool := match ops[ops.size - 1]? with
  | some o => (List.range (ops.size - 1)).all fun k => o.after.toList.any (fun e => Region.binds .any e && decide (e.on = k))
  | none => false
theorem lastB_spec (h : lastB ops = true) {o : Oper} (ho : ops[ops.size - 1]? = some o) {k : Nat} (hk : k < ops.size - 1) : ∃ e ∈ o.after, Region.binds .any e = true ∧ e.on = k := by
  unfold lastB at h
  rw [ho] at h
  obtain ⟨e, he, h2⟩ := List.any_eq_true.1 (List.all_eq_true.1 h k (List.mem_range.2 hk))
  rw [Bool.and_eq_true] at h2
  exact ⟨e, by simpa using he, h2.1, by simpa using h2.2⟩
/-- THE LAW, where the last operation (a store, most times) waits for all others: it is shown by itself. -/
theorem wp_region_facts_last {id : Nat} {a0 : Act} {w : World} (F : Nat → Value → World → Prop) (G : World → Prop)
    (hm : P.follows .mixedOrders = true) (hlow : lowB ops = true) (hdst : dstB ops a0.tmps.size = true) (hlast : lastB ops = true) (hG : G w.drew)
    (hop : ∀ (i : Nat) (o : Oper), i < ops.size - 1 → ops[i]? = some o → ∀ (a : Act) (w : World), G w → Keep ops a0 a →
      (∀ e ∈ o.after, Region.binds .any e = true → ∀ (o' : Oper) (d : Tmp), ops[e.on]? = some o' → o'.dst = some d → F e.on (a.eval (.tmp d)) w) →
      wpOp P ops Q i (fun a' w' => ∃ v, a' = a.put o.dst v ∧ (o.dst ≠ none → F i v w') ∧ G w' ∧ ∀ k v, F k v w → F k v w') a w)
    (hfin : ∀ (a : Act) (w : World), G w → Keep ops a0 a → (∀ (k : Nat) (o : Oper) (d : Tmp), k < ops.size - 1 → ops[k]? = some o → o.dst = some d → F k (a.eval (.tmp d)) w) → wpOp P ops Q (ops.size - 1) (fun a' w' => Q .normal a' w') a w) :
    (Code.region id ops true).wp P Q a0 w := by
  refine wp_region_any hm ?_
  have hpos : 0 < ops.size := by
    unfold lastB at hlast
    cases hq : ops[ops.size - 1]? with
    | none => rw [hq] at hlast; cases hlast
    | some o => have := (Array.getElem?_eq_some_iff.1 hq).1; omega
  refine wpAny_inv (fun listed a w => (listed.size = ops.size ∧ listed.getD (ops.size - 1) true = false ∧ G w ∧ Keep ops a0 a ∧ ∀ (k : Nat) (o : Oper) (d : Tmp), ops[k]? = some o → o.dst = some d → listed.getD k false = true → F k (a.eval (.tmp d)) w) ∨ ((∀ k, k < ops.size → listed.getD k true = true) ∧ Q .normal a w)) ?_ ?_ ops.size _ a0 _ (.inl ⟨by simp, ?_, hG, ⟨rfl, rfl, fun _ _ => rfl⟩, ?_⟩) (by rw [Array.toList_replicate, leftL_rep]; exact Nat.le_refl _)
  · intro listed a w i hI hi
    obtain ⟨hn, o, ho, hall⟩ := mem_ready.1 hi
    have hin : i < ops.size := (Array.getElem?_eq_some_iff.1 ho).1
    rcases hI with ⟨hs, hl0, g, kp, hf⟩ | ⟨hx, _⟩
    · by_cases hil : i = ops.size - 1
      · subst hil
        refine wpOp_mono ?_ (hfin a w g kp fun k o' d hk ho' hd' => ?_)
        · intro a' w' hq
          refine .inr ⟨fun k hk => ?_, hq⟩
          by_cases hkl : ops.size - 1 = k
          · subst hkl
            rw [Array.getD_eq_getD_getElem?, Array.getElem?_setIfInBounds_self_of_lt (by omega)]; rfl
          · obtain ⟨e, he, hb, rfl⟩ := lastB_spec hlast ho (k := k) (by omega)
            have h1 := hall e he hb
            rw [Array.getD_eq_getD_getElem?, Array.getElem?_setIfInBounds_ne hkl]
            rw [Array.getD_eq_getD_getElem?] at h1
            cases hq : listed[e.on]? with
            | none => rfl
            | some b => rw [hq] at h1; exact h1
        · obtain ⟨e, he, hb, rfl⟩ := lastB_spec hlast ho (k := k) hk
          exact hf _ _ _ ho' hd' (hall e he hb)
      · refine wpOp_mono ?_ (hop i o (by omega) ho a w g kp fun e he hb o' d ho' hd' => hf _ _ _ ho' hd' (hall e he hb))
        rintro a' w' ⟨v, rfl, hv, g', hk⟩
        refine .inl ⟨by simpa using hs, by rw [Array.getD_eq_getD_getElem?, Array.getElem?_setIfInBounds_ne hil, ← Array.getD_eq_getD_getElem?]; exact hl0, g', ⟨by rw [put_size]; exact kp.size, by rw [put_defers']; exact kp.defers, fun t ht => by rw [put_eval_ne (ht i o ho)]; exact kp.old t ht⟩, ?_⟩
        intro k o' d hk' hd' hl
        by_cases hik : i = k
        · subst hik
          rw [ho] at hk'
          cases hk'
          rw [hd', put_eval_eq (by rw [kp.size]; exact dstB_in hdst ho hd')]
          exact hv (by rw [hd']; simp)
        · have hne : o.dst ≠ some d := fun h => hik (dstB_apart hdst ho hk' h hd')
          rw [put_eval_ne hne]
          refine hk _ _ (hf k o' d hk' hd' ?_)
          rw [Array.getD_eq_getD_getElem?, Array.getElem?_setIfInBounds_ne hik, ← Array.getD_eq_getD_getElem?] at hl
          exact hl
    · have := hx i hin
      rw [this] at hn; cases hn
  · intro listed a w hI hr
    rcases hI with ⟨hs, hl0, g, kp, hf⟩ | ⟨_, hq⟩
    · exfalso
      have hall : ∀ i, i < ops.size → listed.getD i true = true := by
        intro i
        induction i using Nat.strongRecOn with
        | _ i ih =>
          intro hi
          cases hq : listed.getD i true with
          | true => rfl
          | false =>
            have hmem : i ∈ Region.ready .any ops listed := mem_ready.2 ⟨hq, ops[i], by simp [hi], fun e he _ => by
              have h1 := lowB_spec hlow (i := i) (o := ops[i]) (by simp [hi]) he
              have h2 := ih _ h1 (by omega)
              have hlt : e.on < listed.size := by omega
              rw [Array.getD_eq_getD_getElem?, Array.getElem?_eq_getElem hlt] at h2 ⊢
              simpa using h2⟩
            rw [hr] at hmem
            cases hmem
      rw [hall _ (by omega)] at hl0
      cases hl0
    · exact hq
  · rw [Array.getD_eq_getD_getElem?, Array.getElem?_replicate, if_pos (by omega)]; rfl
  · intro k o d _ _ hl
    exfalso
    rw [Array.getD_eq_getD_getElem?, Array.getElem?_replicate] at hl
    split at hl <;> simp at hl
end
end Go.Sl
end
section
/- A region by facts, where some edges lead forth. No program is named here. -/
namespace Go.Sl
open Go Go.RowKit
section
variable {P : Program} {ops : Array Oper} {Q : Exit → Act → World → Prop} {md : Region.Mode}
def lowO (ops : Array Oper) (ord : List Nat) : Bool := (List.range ops.size).all fun i => match ops[i]? with | some o => o.after.toList.all (fun e => !Region.binds .any e || (decide (e.on < ops.size) && decide (ord.getD e.on 0 < ord.getD i 0))) | none => true
theorem lowO_spec {ord : List Nat} (h : lowO ops ord = true) {i : Nat} {o : Oper} (ho : ops[i]? = some o) {e} (he : e ∈ o.after) (hb : Region.binds .any e = true) : e.on < ops.size ∧ ord.getD e.on 0 < ord.getD i 0 := by
  unfold lowO at h
  have hi : i < ops.size := (Array.getElem?_eq_some_iff.1 ho).1
  have h1 := List.all_eq_true.1 h i (List.mem_range.2 hi)
  rw [ho] at h1
  have h2 := List.all_eq_true.1 h1 e (by simpa using he)
  simpa [hb] using h2
/-- THE LAW, where some edges lead forth: each operation has a rank. -/
theorem wp_region_facts_ord {id : Nat} {a0 : Act} {w : World} (F : Nat → Value → World → Prop) (G : World → Prop)
    (ord : List Nat) (hm : P.follows .mixedOrders = true) (hlow : lowO ops ord = true) (hdst : dstB ops a0.tmps.size = true) (hG : G w.drew)
    (hop : ∀ (i : Nat) (o : Oper), ops[i]? = some o → ∀ (a : Act) (w : World), G w → Keep ops a0 a →
      (∀ e ∈ o.after, Region.binds .any e = true → ∀ (o' : Oper) (d : Tmp), ops[e.on]? = some o' → o'.dst = some d → F e.on (a.eval (.tmp d)) w) →
      wpOp P ops Q i (fun a' w' => ∃ v, a' = a.put o.dst v ∧ (o.dst ≠ none → F i v w') ∧ G w' ∧ ∀ k v, F k v w → F k v w') a w)
    (hfin : ∀ (a : Act) (w : World), G w → Keep ops a0 a → (∀ (k : Nat) (o : Oper) (d : Tmp), ops[k]? = some o → o.dst = some d → F k (a.eval (.tmp d)) w) → Q .normal a w) :
    (Code.region id ops true).wp P Q a0 w := by
  refine wp_region_any hm ?_
  refine wpAny_inv (fun listed a w => listed.size = ops.size ∧ G w ∧ Keep ops a0 a ∧ ∀ (k : Nat) (o : Oper) (d : Tmp), ops[k]? = some o → o.dst = some d → listed.getD k false = true → F k (a.eval (.tmp d)) w) ?_ ?_ ops.size _ a0 _ ⟨by simp, hG, ⟨rfl, rfl, fun _ _ => rfl⟩, ?_⟩ (by rw [Array.toList_replicate, leftL_rep]; exact Nat.le_refl _)
  · intro listed a w i ⟨hs, g, kp, hf⟩ hi
    obtain ⟨hn, o, ho, hall⟩ := mem_ready.1 hi
    refine wpOp_mono ?_ (hop i o ho a w g kp fun e he hb o' d ho' hd' => hf _ _ _ ho' hd' (hall e he hb))
    rintro a' w' ⟨v, rfl, hv, g', hk⟩
    refine ⟨by simpa using hs, g', ⟨by rw [put_size]; exact kp.size, by rw [put_defers']; exact kp.defers, fun t ht => by rw [put_eval_ne (ht i o ho)]; exact kp.old t ht⟩, ?_⟩
    intro k o' d hk' hd' hl
    by_cases hik : i = k
    · subst hik
      rw [ho] at hk'
      cases hk'
      rw [hd', put_eval_eq (by rw [kp.size]; exact dstB_in hdst ho hd')]
      exact hv (by rw [hd']; simp)
    · have hne : o.dst ≠ some d := fun h => hik (dstB_apart hdst ho hk' h hd')
      rw [put_eval_ne hne]
      refine hk _ _ (hf k o' d hk' hd' ?_)
      rw [Array.getD_eq_getD_getElem?, Array.getElem?_setIfInBounds_ne hik, ← Array.getD_eq_getD_getElem?] at hl
      exact hl
  · intro listed a w ⟨hs, g, kp, hf⟩ hr
    have hall : ∀ (n i : Nat), ord.getD i 0 = n → i < ops.size → listed.getD i false = true := by
      intro n
      induction n using Nat.strongRecOn with
      | _ n ih =>
        intro i hn hi
        cases hq : listed.getD i true with
        | true =>
          have hlt : i < listed.size := by omega
          rw [Array.getD_eq_getD_getElem?, Array.getElem?_eq_getElem hlt] at hq ⊢
          simpa using hq
        | false =>
          have hmem : i ∈ Region.ready .any ops listed := mem_ready.2 ⟨hq, ops[i], by simp [hi], fun e he hb => by
            obtain ⟨h1, h2⟩ := lowO_spec hlow (i := i) (o := ops[i]) (by simp [hi]) he hb
            exact ih _ (hn ▸ h2) _ rfl h1⟩
          rw [hr] at hmem
          cases hmem
    exact hfin a w g kp fun k o d hk hd => hf k o d hk hd (hall _ k rfl (Array.getElem?_eq_some_iff.1 hk).1)
  · intro k o d _ _ hl
    exfalso
    rw [Array.getD_eq_getD_getElem?, Array.getElem?_replicate] at hl
    split at hl <;> simp at hl
end
end Go.Sl
namespace Go.Sl
open Go Go.RowKit
/-- The slots of L laid anew. -/
def layAll (f : Tmp → Value) (b : Act) (L : List Tmp) : Act := L.foldl (fun b d => b.put (some d) (f d)) b
theorem layAll_size (f : Tmp → Value) : ∀ (L : List Tmp) (b : Act), (layAll f b L).tmps.size = b.tmps.size
  | [], _ => rfl
  | d :: L, b => (layAll_size f L _).trans (put_size b (some d) _)
theorem layAll_defers (f : Tmp → Value) : ∀ (L : List Tmp) (b : Act), (layAll f b L).defers = b.defers
  | [], _ => rfl
  | d :: L, b => (layAll_defers f L _).trans (put_defers' b (some d) _)
theorem layAll_at (f : Tmp → Value) (t : Tmp) : ∀ (L : List Tmp) (b : Act), (layAll f b L).tmps[t]? = if t ∈ L ∧ t < b.tmps.size then some (f t) else b.tmps[t]?
  | [], b => by simp [layAll]
  | d :: L, b => by
    have h := layAll_at f t L (b.put (some d) (f d))
    show (layAll f (b.put (some d) (f d)) L).tmps[t]? = _
    rw [h, put_size]
    by_cases hL : t ∈ L
    · by_cases hb : t < b.tmps.size
      · rw [if_pos ⟨hL, hb⟩, if_pos ⟨by simp [hL], hb⟩]
      · rw [if_neg (fun h => hb h.2), if_neg (fun h => hb h.2)]
        simp only [Act.put]
        have hge : b.tmps.size ≤ t := Nat.le_of_not_lt hb
        rw [Array.getElem?_eq_none hge, Array.getElem?_eq_none (show (b.tmps.setIfInBounds d (f d)).size ≤ t by simpa using hge)]
    · rw [if_neg (fun h => hL h.1)]
      by_cases hd : d = t
      · subst hd
        by_cases hb : d < b.tmps.size
        · rw [if_pos ⟨by simp, hb⟩]
          simp only [Act.put]
          rw [Array.getElem?_setIfInBounds_self_of_lt hb]
        · rw [if_neg (fun h => hb h.2)]
          simp only [Act.put]
          have hge : b.tmps.size ≤ d := Nat.le_of_not_lt hb
          rw [Array.getElem?_eq_none hge, Array.getElem?_eq_none (show (b.tmps.setIfInBounds d (f d)).size ≤ d by simpa using hge)]
      · rw [if_neg (fun h => by rcases List.mem_cons.1 h.1 with h | h; exact hd h.symm; exact hL h)]
        simp only [Act.put]
        rw [Array.getElem?_setIfInBounds_ne hd]
def dstIn (ops : Array Oper) (L : List Tmp) : Bool := ops.toList.all fun o => match o.dst with | some d => L.contains d | none => true
/-- The frame behind a region: the one it came with, and its own slots laid anew. -/
theorem Keep.act {ops : Array Oper} {a0 a : Act} (kp : Keep ops a0 a) (L : List Tmp) (h : dstIn ops L = true) : a = layAll (fun d => a.eval (.tmp d)) a0 L := by
  have hz : a.tmps.size = (layAll (fun d => a.eval (.tmp d)) a0 L).tmps.size := by rw [layAll_size]; exact kp.size
  have ht : a.tmps = (layAll (fun d => a.eval (.tmp d)) a0 L).tmps := by
    apply Array.ext_getElem?
    intro t
    rw [layAll_at]
    by_cases hs : t < a0.tmps.size
    · have hs' : t < a.tmps.size := by rw [kp.size]; exact hs
      by_cases hL : t ∈ L
      · rw [if_pos ⟨hL, hs⟩, eval_tmp, Array.getElem?_eq_getElem hs']; rfl
      · rw [if_neg (fun h => hL h.1)]
        have h1 := kp.old t fun k o ho hd => by
          have h2 := List.all_eq_true.1 h o (by rw [← Array.getElem?_toList] at ho; exact List.mem_of_getElem? ho)
          rw [hd] at h2
          exact hL (by simpa using h2)
        rw [eval_tmp, eval_tmp, Array.getElem?_eq_getElem hs, Array.getElem?_eq_getElem hs'] at h1
        rw [Array.getElem?_eq_getElem hs, Array.getElem?_eq_getElem hs']
        simpa using h1
    · have h1 : a0.tmps.size ≤ t := by omega
      have h2 : a.tmps.size ≤ t := by rw [kp.size]; exact h1
      rw [if_neg (fun h => hs h.2), Array.getElem?_eq_none h1, Array.getElem?_eq_none h2]
  have hd : a.defers = (layAll (fun d => a.eval (.tmp d)) a0 L).defers := by rw [layAll_defers]; exact kp.defers
  cases a
  generalize layAll _ _ _ = b at *
  cases b
  simp only at ht hd
  subst ht hd
  rfl
end Go.Sl
end
