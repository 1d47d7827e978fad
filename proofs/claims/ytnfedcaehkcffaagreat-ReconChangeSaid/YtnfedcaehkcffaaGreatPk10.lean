/- Walks and plain facts that the laws of this seat share, part 10: contracts of functions, each said at its theorem. -/
import Derived.Test.YtnfedcaehkcffaaGreatPk9
import Derived.Deep.RegionHeld3
import Derived.StillTailTactics
import Derived.WalkKit
import Derived.Laws.StructEq
set_option linter.all false
section
/- Facts of a provision, plain: the change of deferred tax is the opening's less the closing's; rounding. -/
namespace Go.Sl
open Go Go.RowKit
/-- A part's rounding. -/
theorem ofVal_half {n r : Int} (h1 : -400000000000 ≤ n) (h2 : n ≤ 400000000000) (h3 : 0 ≤ r) (h4 : r ≤ 10000000) :
    -1000000 ≤ 2 * (n * r - ofVal n r * 1000000) ∧ 2 * (n * r - ofVal n r * 1000000) ≤ 1000000 := by
  have e : ofOk n r = true := by simp [ofOk]; omega
  unfold ofVal
  rw [if_pos e]
  rcases Int.le_total 0 n with h | h
  · rw [partOf_pos h h3]; omega
  · have e2 := Int.neg_mul n r
    rw [partOf_neg h h3]; omega
theorem oxOf_zip (f : SWay → Int → Int) (F : STri → Int) : ∀ (rows : List SWay) (ns : List Int), ns.length = rows.length → (∀ r ∈ rows, r.opn ≠ 0 → ∀ n, f r n = F (opnB r)) →
    oxOf rows (List.zipWith f rows ns) = ((rows.filter fun r => !decide (r.opn = 0)).map opnB).map F
  | [], _, _, _ => by simp [oxOf]
  | _ :: _, [], h, _ => by simp at h
  | r :: rows, n :: ns, h, hf => by
    have ih := oxOf_zip f F rows ns (by simpa using h) fun x hx => hf x (by simp [hx])
    by_cases h0 : r.opn = 0
    · simp [oxOf, h0, ih]
    · simp only [List.zipWith_cons_cons, oxOf, h0, if_false, List.filter_cons, decide_false, Bool.not_false, if_true, List.map_cons, ih, hf r (by simp) h0 n]
theorem wyOf_map (F : STri → Int) : ∀ rows : List SWay, wyOf rows (rows.map fun r => F (cloB r)) = ((rows.filter fun r => !decide (r.clo = 0)).map cloB).map F
  | [] => rfl
  | r :: rows => by
    have ih := wyOf_map F rows
    by_cases h0 : r.clo = 0
    · simp [wyOf, h0, ih]
    · simp only [List.map_cons, wyOf, h0, if_false, List.filter_cons, decide_false, Bool.not_false, if_true, ih]
/-- The rate of a bucket among the opening's. -/
def oldF (o : SBal) (b : STri) : Int :=
  match o.xs.findIdx? (fun x => x.a == b.a && x.b == b.b) with
  | some k => o.rs[k]?.getD 0
  | none => 0
theorem findIdx_self {l : List STri} (hr : RisingR l) {i : Nat} {x : STri} (hx : l[i]? = some x) : l.findIdx? (fun y => y.a == x.a && y.b == x.b) = some i := by
  obtain ⟨hi, he⟩ := List.getElem?_eq_some_iff.1 hx
  rw [List.findIdx?_eq_some_iff_getElem]
  refine ⟨hi, by rw [he]; simp, fun j hj => ?_⟩
  have h1 := List.pairwise_iff_getElem.1 hr j i (by omega) hi hj
  intro h2
  rw [he] at h1
  have h2' : (l[j]).a = x.a ∧ (l[j]).b = x.b := by simpa using h2
  exact ordPair.ne h1 (by simp [rkey, h2'.1, h2'.2])
theorem map_oldF {o : SBal} (g : GoodB o) : o.xs.map (oldF o) = o.rs := by
  apply List.ext_getElem?
  intro i
  rw [List.getElem?_map]
  cases hx : o.xs[i]? with
  | none =>
    have : o.xs.length ≤ i := List.getElem?_eq_none_iff.1 hx
    rw [Option.map_none, List.getElem?_eq_none (by have := g.len; omega)]
  | some x =>
    have hi : i < o.rs.length := by rw [g.len]; exact (List.getElem?_eq_some_iff.1 hx).1
    rw [Option.map_some, List.getElem?_eq_getElem hi]
    unfold oldF
    rw [findIdx_self g.reg.rise hx]
    simp [List.getElem?_eq_getElem hi]
theorem oldOf_oldF {o : SBal} (g : GoodB o) {c : List STri} {r : SWay} (hr : r ∈ refFwd o.xs c) (h0 : r.opn ≠ 0) (n : Int) : oldOf o r n = oldF o (opnB r) := by
  have h1 := rows_opn (c := c) g.reg
  have hm : opnB r ∈ o.xs := by
    rw [← h1]
    exact List.mem_map.2 ⟨r, List.mem_filter.2 ⟨hr, by simpa using h0⟩, rfl⟩
  obtain ⟨i, hi⟩ := List.mem_iff_getElem?.1 hm
  have hf := findIdx_self g.reg.rise hi
  have hlt : i < o.rs.length := by rw [g.len]; exact (List.getElem?_eq_some_iff.1 hi).1
  unfold oldOf oldF
  simp only [opnB] at hf ⊢
  rw [hf]
  simp [List.getElem?_eq_getElem hlt]
/-- An opening of which the deferred tax is known. -/
structure FitB (o : SBal) : Prop extends GoodB o where
  me : meaE o.xs o.rs = 0
  mt : o.tm = meaN o.xs o.rs
  sh : o.ls = ofVal o.lf o.nx
theorem FitB.none : FitB balNone := ⟨GoodB.none, rfl, rfl, by decide⟩
section
variable {a : SArg}
/-- A close that has an answer. -/
structure OkA (a : SArg) : Prop extends GoodA a where
  z : a.makE = 0
theorem makE_zero (h : a.makE = 0) : a.argOk = true ∧ a.knownE = 0 ∧ a.taxE = 0 ∧ a.balE = 0 ∧ a.chgE = 0 ∧ a.costE = 0 := by
  unfold SArg.makE at h
  split at h
  · exact absurd h (by decide)
  · rename_i h1
    split at h
    · exact absurd h (by assumption)
    · rename_i h2
      split at h
      · exact absurd h (by assumption)
      · rename_i h3
        split at h
        · exact absurd h (by assumption)
        · rename_i h4
          split at h
          · exact absurd h (by assumption)
          · rename_i h5
            exact ⟨by simpa using h1, Decidable.not_not.1 h2, Decidable.not_not.1 h3, Decidable.not_not.1 h4, Decidable.not_not.1 h5, h⟩
theorem balE_zero (h : a.balE = 0) : meaE a.r a.rats = 0 ∧ shareE a.lf a.nx = 0 ∧ shareE a.ls a.x.judge = 0 := by
  unfold SArg.balE at h
  split at h
  · exact absurd h (by assumption)
  · rename_i h1
    split at h
    · exact absurd h (by assumption)
    · rename_i h2
      exact ⟨Decidable.not_not.1 h1, Decidable.not_not.1 h2, h⟩
theorem chgE_zero (h : a.chgE = 0) : ratE a.t a.x.j a.wb a.x.per = 0 ∧ remE a.rows a.was a.now = 0 := by
  unfold SArg.chgE at h
  split at h
  · exact absurd h (by assumption)
  · rename_i h1
    exact ⟨Decidable.not_not.1 h1, h⟩
theorem knownE_zero (h : a.knownE = 0) : rateB a.t a.x.j a.yr a.x.per = true ∧ nextE a.t a.x.j a.x.per = 0 ∧ ratE a.t a.x.j a.r a.x.per = 0 := by
  unfold SArg.knownE at h
  split at h
  · exact absurd h (by decide)
  · rename_i h1
    split at h
    · exact absurd h (by assumption)
    · rename_i h2
      exact ⟨by simpa using h1, Decidable.not_not.1 h2, h⟩
theorem costE_zero (h : a.costE = 0) : a.costs.all money = true := by
  unfold SArg.costE at h
  split at h
  · assumption
  · exact absurd h (by decide)
theorem GoodA.rows_ref (g : GoodA a) : a.rows = refFwd a.o.xs a.r := fwd_ref g.o.reg g.r
theorem was_opn (g : GoodA a) : oxOf a.rows a.was = a.o.rs := by
  unfold SArg.was
  rw [oxOf_zip (oldOf a.o) (oldF a.o) a.rows a.now g.now_len (fun r hr h0 n => oldOf_oldF g.o (by rw [← g.rows_ref]; exact hr) h0 n), g.rows_ref, rows_opn g.o.reg, map_oldF g.o]
theorem now_clo (g : GoodA a) : wyOf a.rows a.now = a.rats := by
  have h1 : a.now = a.rows.map fun r => ratOf a.t a.x.j a.x.per (cloB r) := by
    unfold SArg.now ratL SArg.wb
    rw [List.map_map]; rfl
  rw [h1, wyOf_map (ratOf a.t a.x.j a.x.per) a.rows, g.rows_ref, rows_clo g.r]; rfl
theorem OkA.fit (k : OkA a) : FitB a.clo := by
  obtain ⟨_, _, _, h4, _, _⟩ := makE_zero k.z
  obtain ⟨h1, h2, _⟩ := balE_zero h4
  exact ⟨k.toGoodA.clo, h1, rfl, by show shareV a.lf a.nx = _; unfold shareV; rw [if_pos h2]; rfl⟩
theorem OkA.chg (k : OkA a) (f : FitB a.o) : a.mo + a.ra = a.o.tm - a.tm := by
  obtain ⟨_, _, _, h4, h5, _⟩ := makE_zero k.z
  obtain ⟨h6, _, _⟩ := balE_zero h4
  obtain ⟨_, h7⟩ := chgE_zero h5
  have g := k.toGoodA
  have e1 := was_opn g
  have e2 := now_clo g
  rw [g.rows_ref] at e1 e2 h7
  have := total_plain g.o.reg g.r h7 (by rw [e1]; exact f.me) (by rw [e2]; exact h6)
  rw [e1, e2] at this
  unfold SArg.mo SArg.ra SArg.tm
  rw [g.rows_ref, this, f.mt]
theorem OkA.df_eq (k : OkA a) (f : FitB a.o) : a.df = a.o.tm + a.o.ls + a.o.al - a.tm - a.ls - a.al := by
  have h := k.chg f
  unfold SArg.df SArg.lm SArg.am; omega
theorem shareV_le {n r : Int} : shareV n r ≤ max n 0 := (shareV_rng n r).2.2
theorem OkA.income (k : OkA a) : incOk a.x.book a.x.perm a.mov = true ∧ a.inc = a.x.book + a.x.perm - a.mov ∧ curArg a.x.cap a.x.life a.yr a.rt = true ∧ (a.inc < 0 → vAddE (vExp a.v a.yr) a.yr (a.yr + a.x.life) (-a.inc) = 0) := by
  obtain ⟨_, _, h3, _, _, _⟩ := makE_zero k.z
  unfold SArg.taxE curE at h3
  split at h3
  · exact absurd h3 (by decide)
  · rename_i h1
    split at h3
    · exact absurd h3 (by decide)
    · rename_i h2
      have h2' : incOk a.x.book a.x.perm a.mov = true := by simpa using h2
      refine ⟨h2', by unfold SArg.inc incV; rw [if_pos h2'], by simpa using h1, fun hn => ?_⟩
      have hn' : incV a.x.book a.x.perm a.mov < 0 := hn
      rw [if_pos hn'] at h3
      exact h3
theorem OkA.kept (k : OkA a) : sumC a.v + curNew a.inc = a.lf + a.vec.sum + vGone a.v a.yr := CL.kept k.v k.income.2.2.2
end
end Go.Sl
end
section
/- Parts of memory in another order, and two of them as one. No program is named here. -/
namespace Go.Sl
open Go Go.RowKit
theorem Own.perm {w : World} {l m : List Hp} (p : l.Perm m) : Own w l → Own w m := by
  induction p with
  | nil => exact fun o => o
  | cons x p ih => exact fun o => ⟨o.1, fun k hk => o.2.1 k (p.mem_iff.2 hk), ih o.2.2⟩
  | swap x y l => exact fun o => ⟨o.2.2.1, fun k hk => by
      rcases List.mem_cons.1 hk with rfl | hk
      · exact (o.2.1 x (by simp)).symm
      · exact o.2.2.2.1 k hk, o.1, fun k hk => o.2.1 k (by simp [hk]), o.2.2.2.2⟩
  | trans _ _ h1 h2 => exact fun o => h2 (h1 o)
section
variable {w0 w w1 : World} {l m : List Hp} {a b h' : Hp}
theorem Env.perm (E : Env w0 w l) (p : l.Perm m) : Env w0 w m := ⟨E.own.perm p, fun h hh => E.fr h (p.mem_iff.2 hh), E.low⟩
/-- A new part behind the first one. -/
theorem Env.new1 (E : Env w0 w (a :: l)) (u : Upd Hp.none h' w w1) : Env w0 w1 (a :: h' :: l) :=
  Env.perm (E.new u) ((List.perm_append_singleton h' l).cons a)
/-- A new part ahead of all. -/
theorem Env.new0 (E : Env w0 w l) (u : Upd Hp.none h' w w1) : Env w0 w1 (h' :: l) :=
  Env.perm (E.new u) (List.perm_append_singleton h' l)
/-- Two parts as one. -/
theorem Env.fuse (E : Env w0 w (a :: b :: l)) : ∃ h, a.le h ∧ b.le h ∧ Env w0 w (h :: l) :=
  ⟨a.or b, Hp.le_or_left a b, Hp.le_or_right (E.own.2.1 b (by simp)), ⟨E.own.1.or E.own.2.2.1, fun k hk q hq => by
    cases ha : a q with
    | some o => exact E.own.2.1 k (by simp [hk]) q (by simp [ha])
    | none =>
      have : b q ≠ Option.none := by simpa [Hp.or, ha] using hq
      exact E.own.2.2.2.1 k hk q this, E.own.2.2.2.2⟩, fun k hk q hq => by
    rcases List.mem_cons.1 hk with rfl | hk
    · cases ha : a q with
      | some o => exact E.fr a (by simp) q (by simp [ha])
      | none => exact E.fr b (by simp) q (by simpa [Hp.or, ha] using hq)
    · exact E.fr k (by simp [hk]) q hq, E.low⟩
theorem Env.join0 {w2 : World} (E : Env w0 w (a :: l)) (F : Env w w2 m) : Env w0 w2 (a :: m ++ l) :=
  Env.perm (E.join F) (by
    rw [List.cons_append, List.cons_append]
    exact (List.perm_append_comm).cons a)
theorem Env.swapTo (E : Env w0 w (a :: b :: l)) : Env w0 w (b :: a :: l) := E.perm (List.Perm.swap b a l)
end
end Go.Sl
end
section
/- Parts of a struct at an Env: load and store of some of its cells. No program is named here. -/
namespace Go.Sl
open Go Go.RowKit
theorem exec_load_mid {P : Program} {op : Oper} {a : Act} (ty : TypeId) (x : Operand) (ho : op.op = .load ty x) (b o : Nat) (hx : a.eval x = .pointer (some ⟨b, o, none⟩)) (cs : List Value) (d : TypeDesc) (w : World) (hc : w.rangeAt b o cs)
    (hu : P.underlying ty = some d) (hd : d.isRow = true) (hi : (P.info? ty).map (·.size) = some cs.length) : (execOp a.eval op).run P w = .ok (.value (.agg cs.toArray)) w := by
  unfold execOp
  simp only [ho, hx, Instr.loadAt, Instr.sureAddr, Sem.run_bind, Sem.run_pure, Result.andThen_ok, run_loadVar_mid w b o ty cs d hc hu hd hi]
section
variable {w0 w : World} {l : List Hp} {b : Nat} {cs : List Value} {T : TypeId}
theorem Env.rangeMid (E : Env w0 w l) (i : Nat) (hi : l[i]? = some (Hp.box b cs T)) (o : Nat) (ds : List Value) (hd : (cs.drop o).take ds.length = ds) : w.rangeAt b o ds := fun j v hv => by
  refine E.cell i hi (o + j) ?_
  have hj := (List.getElem?_eq_some_iff.1 hv).1
  rw [← hd, List.getElem?_take, if_pos hj, List.getElem?_drop] at hv
  exact hv
theorem Env.thereMid (E : Env w0 w l) (i : Nat) (hi : l[i]? = some (Hp.box b cs T)) (o n : Nat) (hn : o + n ≤ cs.length) : w.there b o n := fun j hj => by
  have hj' : o + j < cs.length := by omega
  exact ⟨by rw [E.cell i hi (o + j) (List.getElem?_eq_getElem hj')]; rfl, E.free i hi (o + j)⟩
theorem Env.setMidFrom (suf : List Value) : ∀ (vs pre old : List Value) {w : World} {l : List Hp} (i : Nat), Env w0 w l → l[i]? = some (Hp.box b (pre ++ (old ++ suf)) T) → vs.length = old.length →
    Env w0 (w.setCells b pre.length vs) (l.set i (Hp.box b (pre ++ (vs ++ suf)) T))
  | [], pre, old, w, l, i, E, hi, hl => by
    obtain rfl : old = [] := List.length_eq_zero_iff.1 hl.symm
    have : l.set i (Hp.box b (pre ++ ([] ++ suf)) T) = l := by
      apply List.ext_getElem?
      intro j
      rw [List.getElem?_set]
      split
      · rename_i h; subst h
        split
        · exact hi.symm
        · rename_i h2; rw [List.getElem?_eq_none (by omega)]
      · rfl
    rw [this]; exact E
  | v :: vs, pre, o :: old, w, l, i, E, hi, hl => by
    have E2 := E.cellset i hi pre.length v
    have hs : (pre ++ (o :: old ++ suf)).set pre.length v = (pre ++ [v]) ++ (old ++ suf) := by simp
    rw [hs] at E2
    have hil : i < l.length := (List.getElem?_eq_some_iff.1 hi).1
    have E3 := Env.setMidFrom suf vs (pre ++ [v]) old i E2 (by rw [List.getElem?_set_self hil]) (by simpa using hl)
    rw [List.set_set, List.append_assoc, List.singleton_append, List.length_append, List.length_singleton] at E3
    exact E3
  | v :: vs, pre, [], w, l, i, E, hi, hl => by simp at hl
/-- Some cells, from the o-th on, are stored over. -/
theorem Env.setMid (E : Env w0 w l) (i : Nat) (hi : l[i]? = some (Hp.box b cs T)) (o : Nat) (vs : List Value) (hl : o + vs.length ≤ cs.length) :
    Env w0 (w.setCells b o vs) (l.set i (Hp.box b (cs.take o ++ (vs ++ cs.drop (o + vs.length))) T)) := by
  have hp : (cs.take o).length = o := by rw [List.length_take]; omega
  have h := Env.setMidFrom (cs.drop (o + vs.length)) vs (cs.take o) ((cs.drop o).take vs.length) i E (by
    rw [hi, ← List.drop_drop, List.take_append_drop, List.take_append_drop]) (by rw [List.length_take, List.length_drop]; omega)
  rw [hp] at h; exact h
/-- Some cells are stored over: the new world is told by what it holds. -/
theorem wp_store_env {P : Program} {op : Oper} {a : Act} {K : Act → World → Prop} {Q : Exit → Act → World → Prop} (E : Env w0 w l) (i : Nat) (hi : l[i]? = some (Hp.box b cs T)) (ty : TypeId) (x y : Operand) (ho : op.op = .store ty x y)
    (o : Nat) (vs : List Value) (hx : a.eval x = .pointer (some ⟨b, o, none⟩)) (hy : a.eval y = .agg vs.toArray) (hl : o + vs.length ≤ cs.length) (hinfo : (P.info? ty).map (·.size) = some vs.toArray.size) (h1 : vs.toArray.all (·.oneCell') = true)
    (H : ∀ W', Env w0 W' (l.set i (Hp.box b (cs.take o ++ (vs ++ cs.drop (o + vs.length))) T)) → K (a.put op.dst undef) W') : op.wp P a w K Q :=
  wp_store_mid ty x y ho b o vs.toArray hx hy (E.thereMid i hi o _ (by simpa using hl)) hinfo h1 (H _ (E.setMid i hi o vs hl))
theorem wpList_store_env {P : Program} {ops : Array Oper} {rest : List Oper} {op : Oper} {a : Act} {Q : Exit → Act → World → Prop} (hgd : op.guard = none) (E : Env w0 w l) (i : Nat) (hi : l[i]? = some (Hp.box b cs T)) (ty : TypeId) (x y : Operand) (ho : op.op = .store ty x y)
    (o : Nat) (vs : List Value) (hx : a.eval x = .pointer (some ⟨b, o, none⟩)) (hy : a.eval y = .agg vs.toArray) (hl : o + vs.length ≤ cs.length) (hinfo : (P.info? ty).map (·.size) = some vs.toArray.size) (h1 : vs.toArray.all (·.oneCell') = true)
    (H : ∀ W', Env w0 W' (l.set i (Hp.box b (cs.take o ++ (vs ++ cs.drop (o + vs.length))) T)) → wpList P ops Q rest (a.put op.dst undef) W') : wpList P ops Q (op :: rest) a w :=
  wpList_store_mid hgd ty x y ho b o vs.toArray hx hy (E.thereMid i hi o _ (by simpa using hl)) hinfo h1 (H _ (E.setMid i hi o vs hl))
/-- A world is told by what it holds. -/
theorem abs_env {K : Act → World → Prop} {a : Act} {l' : List Hp} (h : Env w0 w l') (H : ∀ W, Env w0 W l' → K a W) : K a w := H w h
theorem Env.box1 {a : Hp} {l : List Hp} (E : Env w0 w (a :: l)) (cs : List Value) (T : TypeId) : Env w0 (w.alloc (.cells cs.toArray T)) (a :: Hp.box w.heap.size cs T :: l) := E.new1 (Upd.newBlock w _)
theorem Env.box0 {l : List Hp} (E : Env w0 w l) (cs : List Value) (T : TypeId) : Env w0 (w.alloc (.cells cs.toArray T)) (Hp.box w.heap.size cs T :: l) := E.new0 (Upd.newBlock w _)
theorem Env.pick {l : List Hp} {h : Hp} (E : Env w0 w l) (m : h ∈ l) : Env w0 w [h] := ⟨⟨E.own.mem h m, fun _ e => absurd e (by simp), trivial⟩, fun k hk => E.fr k (by simp at hk; subst hk; exact m), E.low⟩
end
end Go.Sl
end
section
/- The walk of Provision.known. -/
namespace Go.Sl
open Go Go.RowKit
def knE (t : List SRate) (x : SInp) (rows : List STri) : Int := if rateB t x.j (yearOf x.per) x.per = false then 7 else if nextE t x.j x.per ≠ 0 then nextE t x.j x.per else ratE t x.j rows x.per
theorem Env.alloc1 {w0 w : World} {a : Hp} {l : List Hp} (E : Env w0 w (a :: l)) (o : Obj) : Env w0 (w.alloc o) (a :: Hp.one w.heap.size o :: l) := E.new1 (Upd.newBlock w o)
end Go.Sl
namespace Go.Proofs.YtnfedcaehkcffaaGreat
open Go.RowKit Go.Sl
set_option maxHeartbeats 2000000
set_option maxRecDepth 100000
set_option linter.unusedSimpArgs false
def KnAns (t : List SRate) (x : SInp) (rows : List STri) (R : Option Addr) (cr bp : Nat) (v9 v10 v11 v12 v13 v14 v15 v16 v25 v26 v27 v28 v29 v30 v31 v32 v33 v34 v35 v36 v37 v38 v39 v40 : Value) (w0 : World) (L : List Hp) (e : Ending) (w' : World) : Prop :=
  (knE t x rows ≠ 0 ∧ e = .returned (.int .i64 (knE t x rows)) ∧ Env w0 w' L) ∨
  (knE t x rows = 0 ∧ e = .returned (.int .i64 0) ∧ ∃ Q cq hq, Ow kInt hq Q cq (ratL t x.j rows x.per) ∧
    Env w0 w' (Hp.box bp [.string x.j, .int .i64 x.per, .int .i64 x.book, .int .i64 x.perm, .int .i64 x.judge, .int .i64 x.cap, .int .i64 x.life, .int .i64 x.up, .int .i64 (rateV t x.j (yearOf x.per) x.per), v9, v10, v11, v12, v13, v14, v15, v16, .int .i64 x.per, .slice R rows.length cr, .slice Q (ratL t x.j rows x.per).length cq, .int .i64 (nextV t x.j x.per), .int .i64 0, .int .i64 0, .int .i64 0, .int .i64 0, v25, v26, v27, v28, v29, v30, v31, v32, v33, v34, v35, v36, v37, v38, v39, v40] 44 :: hq :: L))
theorem KnAns.no {t : List SRate} {x : SInp} {rows : List STri} {R : Option Addr} {cr bp : Nat} {v9 v10 v11 v12 v13 v14 v15 v16 v25 v26 v27 v28 v29 v30 v31 v32 v33 v34 v35 v36 v37 v38 v39 v40 : Value} {w0 : World} {L : List Hp} {w' : World} {q : Int} (h : knE t x rows = q) (h0 : q ≠ 0) (b : Env w0 w' L) : KnAns t x rows R cr bp v9 v10 v11 v12 v13 v14 v15 v16 v25 v26 v27 v28 v29 v30 v31 v32 v33 v34 v35 v36 v37 v38 v39 v40 w0 L (.returned (.int .i64 q)) w' := .inl ⟨by rw [h]; exact h0, by rw [h], b⟩
theorem known_calls (t : List SRate) (x : SInp) (rows : List STri) (R : Option Addr) (cr bp bt : Nat) (v8 v9 v10 v11 v12 v13 v14 v15 v16 v17 v18 v19 v20 v21 v22 v23 v24 v25 v26 v27 v28 v29 v30 v31 v32 v33 v34 v35 v36 v37 v38 v39 v40 : Value) (ht hr : Hp) (w0 w : World) (L : List Hp) (E : Env w0 w (Hp.box bp [.string x.j, .int .i64 x.per, .int .i64 x.book, .int .i64 x.perm, .int .i64 x.judge, .int .i64 x.cap, .int .i64 x.life, .int .i64 x.up, v8, v9, v10, v11, v12, v13, v14, v15, v16, v17, v18, v19, v20, v21, v22, v23, v24, v25, v26, v27, v28, v29, v30, v31, v32, v33, v34, v35, v36, v37, v38, v39, v40] 44 :: L)) (hts : ht.sub w0) (pt : PtT ht bt t) (hkr : hr ∈ L) (sr : Sl kTri hr R cr rows) (hl : rows.length ≤ 1000000) :
    Calls Tryz.prog 53 #[.pointer (some ⟨bp, 0, none⟩), .pointer (some ⟨bt, 0, none⟩), .slice R rows.length cr] w (KnAns t x rows R cr bp v9 v10 v11 v12 v13 v14 v15 v16 v25 v26 v27 v28 v29 v30 v31 v32 v33 v34 v35 v36 v37 v38 v39 v40 w0 L) := by
  have HK : Hid (knE t x rows = if rateB t x.j (yearOf x.per) x.per = false then 7 else if nextE t x.j x.per ≠ 0 then nextE t x.j x.per else ratE t x.j rows x.per) := rfl
  have HA : Hid (∀ e w', KnAns t x rows R cr bp v9 v10 v11 v12 v13 v14 v15 v16 v25 v26 v27 v28 v29 v30 v31 v32 v33 v34 v35 v36 v37 v38 v39 v40 w0 L e w' → KnAns t x rows R cr bp v9 v10 v11 v12 v13 v14 v15 v16 v25 v26 v27 v28 v29 v30 v31 v32 v33 v34 v35 v36 v37 v38 v39 v40 w0 L e w') := fun _ _ h => h
  have hyb := yearOf_bd x.per
  have YC := fun W : World => perYear_calls x.per W
  have RC := fun (W : World) (hW : Below w0.heap.size w0 W) => enactRate_calls bt t x.j (yearOf x.per) x.per ht W (hts.of_below hW) pt
  have NC := fun (W : World) (hW : Below w0.heap.size w0 W) => measNext_calls bt t x.j x.per ht W (hts.of_below hW) pt
  have MC := fun (W : World) (hW : Below w0.heap.size w0 W) (kW : hr.sub W) => measRates_calls bt t x.j R cr rows x.per ht hr W (hts.of_below hW) pt kW sr hl
  have E1 := E.alloc1 (.cells #[.string ⟨#[]⟩, .int .i64 0, .int .i64 0, .int .i64 0, .int .i64 0, .int .i64 0, .int .i64 0, .int .i64 0] 31)
  go_enter Tryz.func53, Tryz.ntmps53
  go_wp2_with (first
    | (refine wpList_load_mid rfl 31 _ rfl bp 0 rfl _ _ (E.rangeMid 0 rfl 0 [.string x.j, .int .i64 x.per, .int .i64 x.book, .int .i64 x.perm, .int .i64 x.judge, .int .i64 x.cap, .int .i64 x.life, .int .i64 x.up] rfl) Tryz.underlying31 rfl (by kernel_rfl) ?_)
    | (refine wpList_store_mid rfl 31 _ _ rfl w.heap.size 0 _ rfl rfl (E1.there 1 rfl _ rfl) (by kernel_rfl) (by simp [Value.oneCell']) ?_))
  have E2 := E1.setAll 1 rfl [.string x.j, .int .i64 x.per, .int .i64 x.book, .int .i64 x.perm, .int .i64 x.judge, .int .i64 x.cap, .int .i64 x.life, .int .i64 x.up] rfl
  simp only [List.set_cons_zero, List.set_cons_succ] at E2
  generalize World.setCells _ w.heap.size 0 _ = W9 at *
  generalize w.heap.size = b7 at *
  clear E1 E
  have z0 := E2.cell 1 rfl 0 rfl
  have z1 := E2.cell 1 rfl 1 rfl
  generalize hyr : yearOf x.per = yr at *
  generalize hrb : rateB t x.j yr x.per = rb at *
  generalize hrv : rateV t x.j yr x.per = rv at *
  go_upto_region 2 with fail
  refine wp_region_held_drew (S := (fun V => V.cell? ⟨b7, 0, none⟩ = some (.string x.j) ∧ V.cell? ⟨b7, 1, none⟩ = some (.int .i64 x.per))) (by kernel_rfl) ?_ (fun hHeld => ?_)
  · (try dsimp only)
    first | (go_keep)
  refine take_on (i := 0) (by (simp only [List.getElem?_toArray, List.getElem?_cons_succ, List.getElem?_cons_zero]) <;> rfl) (by kernel_rfl) (by kernel_rfl) (by kernel_rfl) (by intro _ _ _ _ h; exact h) (by rfl) (by assumption) ?_
  apply Exists.intro
  refine ⟨?_, ?_⟩
  · intro W0 hSw
    try dsimp only at hSw
    go_simp
    try (with_reducible rfl)
  try simp only [Act.put, List.setIfInBounds_toArray, List.set_cons_zero, List.set_cons_succ]
  refine take_on (i := 1) (by (simp only [List.getElem?_toArray, List.getElem?_cons_succ, List.getElem?_cons_zero]) <;> rfl) (by kernel_rfl) (by kernel_rfl) (by kernel_rfl) (by intro _ _ _ _ h; exact h) (by rfl) (by assumption) ?_
  apply Exists.intro
  refine ⟨?_, ?_⟩
  · intro W0 hSw
    try dsimp only at hSw
    go_simp
    try (with_reducible rfl)
  try simp only [Act.put, List.setIfInBounds_toArray, List.set_cons_zero, List.set_cons_succ]
  refine take_on (i := 2) (by (simp only [List.getElem?_toArray, List.getElem?_cons_succ, List.getElem?_cons_zero]) <;> rfl) (by kernel_rfl) (by kernel_rfl) (by kernel_rfl) (by intro _ _ _ _ h; exact h) (by rfl) (by assumption) ?_
  apply Exists.intro
  refine ⟨?_, ?_⟩
  · intro W0 hSw
    try dsimp only at hSw
    go_simp
    try (with_reducible rfl)
  try simp only [Act.put, List.setIfInBounds_toArray, List.set_cons_zero, List.set_cons_succ]
  refine take_on (i := 3) (by (simp only [List.getElem?_toArray, List.getElem?_cons_succ, List.getElem?_cons_zero]) <;> rfl) (by kernel_rfl) (by kernel_rfl) (by kernel_rfl) (by intro _ _ _ _ h; exact h) (by rfl) (by assumption) ?_
  apply Exists.intro
  refine ⟨?_, ?_⟩
  · intro W0 hSw
    try dsimp only at hSw
    go_simp
    try (with_reducible rfl)
  try simp only [Act.put, List.setIfInBounds_toArray, List.set_cons_zero, List.set_cons_succ]
  refine take_on (i := 4) (by (simp only [List.getElem?_toArray, List.getElem?_cons_succ, List.getElem?_cons_zero]) <;> rfl) (by kernel_rfl) (by kernel_rfl) (by kernel_rfl) (by intro _ _ _ _ h; exact h) (by rfl) (by assumption) ?_
  apply Exists.intro
  refine ⟨?_, ?_⟩
  · intro W0 hSw
    try dsimp only at hSw
    go_simp
    try (with_reducible rfl)
  try simp only [Act.put, List.setIfInBounds_toArray, List.set_cons_zero, List.set_cons_succ]
  refine take_on (i := 6) (by (simp only [List.getElem?_toArray, List.getElem?_cons_succ, List.getElem?_cons_zero]) <;> rfl) (by kernel_rfl) (by kernel_rfl) (by kernel_rfl) (by intro _ _ _ _ h; exact h) (by rfl) (by assumption) ?_
  apply Exists.intro
  refine ⟨?_, ?_⟩
  · intro W0 hSw
    try dsimp only at hSw
    go_simp
    try (with_reducible rfl)
  try simp only [Act.put, List.setIfInBounds_toArray, List.set_cons_zero, List.set_cons_succ]
  refine take_on (i := 7) (by (simp only [List.getElem?_toArray, List.getElem?_cons_succ, List.getElem?_cons_zero]) <;> rfl) (by kernel_rfl) (by kernel_rfl) (by kernel_rfl) (by intro _ _ _ _ h; exact h) (by rfl) (by assumption) ?_
  apply Exists.intro
  refine ⟨?_, ?_⟩
  · intro W0 hSw
    try dsimp only at hSw
    go_simp
    try (with_reducible rfl)
  try simp only [Act.put, List.setIfInBounds_toArray, List.set_cons_zero, List.set_cons_succ]
  refine wpAnyH_ready (rs := [5]) (by kernel_rfl) (by simp) ?_
  refine AllReadyH.cons (by (simp only [List.getElem?_toArray, List.getElem?_cons_succ, List.getElem?_cons_zero]) <;> rfl) (fun K hK => ?_) AllReadyH.nil
  go_simp
  refine (YC _).mono ?_
  rintro e w' ⟨rfl, rfl⟩
  go_wp2_with fail
  refine hK.out _ _ ?_ (fun hHeld => ?_)
  · (try dsimp only)
    first | (exact hkeep) | (go_keep)
  clear hK K
  try simp only [Act.put, List.setIfInBounds_toArray, List.set_cons_zero, List.set_cons_succ]
  refine wpAnyH_ready (rs := [8]) (by kernel_rfl) (by simp) ?_
  refine AllReadyH.cons (by (simp only [List.getElem?_toArray, List.getElem?_cons_succ, List.getElem?_cons_zero]) <;> rfl) (fun K hK => ?_) AllReadyH.nil
  go_simp
  refine (RC _ (Env.low (by repeat (first | (with_reducible exact E2) | (with_reducible apply Env.drew) | (with_reducible apply Env.drewN) | (with_reducible apply Env.alloc'))))).mono ?_
  rintro e w5 ⟨rfl, B5⟩
  have E5 := E2.drew.below B5
  have hkeep := And.intro (E5.cell 1 rfl 0 rfl) (E5.cell 1 rfl 1 rfl)
  go_wp2_with fail
  refine hK.out _ _ ?_ (fun hHeld => ?_)
  · (try dsimp only)
    first | (exact hkeep) | (go_keep)
  clear hK K
  try simp only [Act.put, List.setIfInBounds_toArray, List.set_cons_zero, List.set_cons_succ]
  refine take_on (i := 9) (by (simp only [List.getElem?_toArray, List.getElem?_cons_succ, List.getElem?_cons_zero]) <;> rfl) (by kernel_rfl) (by kernel_rfl) (by kernel_rfl) (by intro _ _ _ _ h; exact h) (by rfl) (by assumption) ?_
  apply Exists.intro
  refine ⟨?_, ?_⟩
  · intro W0 hSw
    try dsimp only at hSw
    go_simp
    try (with_reducible rfl)
  try simp only [Act.put, List.setIfInBounds_toArray, List.set_cons_zero, List.set_cons_succ]
  refine take_on (i := 10) (by (simp only [List.getElem?_toArray, List.getElem?_cons_succ, List.getElem?_cons_zero]) <;> rfl) (by kernel_rfl) (by kernel_rfl) (by kernel_rfl) (by intro _ _ _ _ h; exact h) (by rfl) (by assumption) ?_
  apply Exists.intro
  refine ⟨?_, ?_⟩
  · intro W0 hSw
    try dsimp only at hSw
    go_simp
    try (with_reducible rfl)
  try simp only [Act.put, List.setIfInBounds_toArray, List.set_cons_zero, List.set_cons_succ]
  refine take_on (i := 11) (by (simp only [List.getElem?_toArray, List.getElem?_cons_succ, List.getElem?_cons_zero]) <;> rfl) (by kernel_rfl) (by kernel_rfl) (by kernel_rfl) (by intro _ _ _ _ h; exact h) (by rfl) (by assumption) ?_
  apply Exists.intro
  refine ⟨?_, ?_⟩
  · intro W0 hSw
    try dsimp only at hSw
    go_simp
    try (with_reducible rfl)
  try simp only [Act.put, List.setIfInBounds_toArray, List.set_cons_zero, List.set_cons_succ]
  refine take_on (i := 12) (by (simp only [List.getElem?_toArray, List.getElem?_cons_succ, List.getElem?_cons_zero]) <;> rfl) (by kernel_rfl) (by kernel_rfl) (by kernel_rfl) (by intro _ _ _ _ h; exact h) (by rfl) (by assumption) ?_
  apply Exists.intro
  refine ⟨?_, ?_⟩
  · intro W0 hSw
    try dsimp only at hSw
    go_simp
    try (with_reducible rfl)
  try simp only [Act.put, List.setIfInBounds_toArray, List.set_cons_zero, List.set_cons_succ]
  refine take_on (i := 13) (by (simp only [List.getElem?_toArray, List.getElem?_cons_succ, List.getElem?_cons_zero]) <;> rfl) (by kernel_rfl) (by kernel_rfl) (by kernel_rfl) (by intro _ _ _ _ h; exact h) (by rfl) (by assumption) ?_
  apply Exists.intro
  refine ⟨?_, ?_⟩
  · intro W0 hSw
    try dsimp only at hSw
    go_simp
    try (with_reducible rfl)
  try simp only [Act.put, List.setIfInBounds_toArray, List.set_cons_zero, List.set_cons_succ]
  refine wpAnyH_done (by kernel_rfl) ?_ _
  clear hHeld hkeep z0 z1 E2 YC RC
  have z0 := E5.cell 1 rfl 0 rfl
  have z1 := E5.cell 1 rfl 1 rfl
  cases rb with
  | false =>
    have HE : Hid (knE t x rows = 7) := by unfold Hid; rw [HK.out]; rfl
    have EL := (E5.drop 0).drop 0
    simp at EL
    go_wp2
    go_ret
    exact .no HE.out (by decide) EL
  | true =>
  have HK2 : Hid (knE t x rows = if nextE t x.j x.per ≠ 0 then nextE t x.j x.per else ratE t x.j rows x.per) := by unfold Hid; rw [HK.out]; rfl
  clear HK
  generalize hne : nextE t x.j x.per = ne at *
  generalize hnv : nextV t x.j x.per = nv at *
  go_wp2_with fail
  refine (NC _ E5.low).mono ?_
  rintro e w6 ⟨rfl, B6⟩
  have E6 := E5.below B6
  clear z0 z1 E5 NC
  have z0 := E6.cell 1 rfl 0 rfl
  have z1 := E6.cell 1 rfl 1 rfl
  rcases Int.decEq ne 0 with h0 | h0
  · have HE : Hid (knE t x rows = ne) := by unfold Hid; rw [HK2.out, if_pos h0]
    have H0 := Lib.hid h0
    have t1 : (ne != 0) = true := by simpa using h0
    have EL := (E6.drop 0).drop 0
    simp at EL
    clear h0
    go_wp2
    go_ret
    exact .no HE.out H0.out EL
  · subst h0
    have HK3 : Hid (knE t x rows = ratE t x.j rows x.per) := by unfold Hid; rw [HK2.out]; rfl
    clear HK2
    go_wp2_with fail
    refine (MC _ E6.low (E6.at_mem (by simp [hkr]))).mono ?_
    rintro e w7 hR
    rcases hR with ⟨h1, rfl, B7⟩ | ⟨h1, Q, cq, hq, rfl, oq, u7⟩
    · have HE := Lib.hid HK3.out
      have H0 := Lib.hid h1
      have EL := ((E6.below B7).drop 0).drop 0
      simp at EL
      generalize ratE t x.j rows x.per = re at *
      have t1 : (re != 0) = true := by simpa using h1
      clear h1
      go_wp2
      go_ret
      exact .no HE.out H0.out EL
    · have HE : Hid (knE t x rows = 0) := by unfold Hid; rw [HK3.out, h1]
      have E7 := E6.new1 u7
      clear z0 z1 E6 MC HK3
      generalize hrl : ratL t x.j rows x.per = rl at *
      have z1 := E7.cell 2 rfl 1 rfl
      have c8 := E7.cell 0 rfl 8 rfl
      have cf := fun n => E7.free 0 rfl n
      go_upto_region 11 with fail
      have ES := E7.drew.cellset 0 rfl 8 (.int .i64 rv)
      simp only [List.set_cons_zero, List.set_cons_succ] at ES
      have EM := ES.setMid 0 rfl 17 [.int .i64 x.per, .slice R rows.length cr, .slice Q rl.length cq, .int .i64 nv, .int .i64 0, .int .i64 0, .int .i64 0, .int .i64 0] (by simp)
      simp at EM
      refine wp_region_held_drew (S := (fun V => V.cell? ⟨b7, 1, none⟩ = some (.int .i64 x.per))) (by kernel_rfl) ?_ (fun hHeld => ?_)
      · (try dsimp only)
        first | (go_keep)
      refine take_on (i := 0) (by (simp only [List.getElem?_toArray, List.getElem?_cons_succ, List.getElem?_cons_zero]) <;> rfl) (by kernel_rfl) (by kernel_rfl) (by kernel_rfl) (by intro _ _ _ _ h; exact h) (by rfl) (by assumption) ?_
      apply Exists.intro
      refine ⟨?_, ?_⟩
      · intro W0 hSw
        try dsimp only at hSw
        go_simp
        try (with_reducible rfl)
      try simp only [Act.put, List.setIfInBounds_toArray, List.set_cons_zero, List.set_cons_succ]
      refine take_on (i := 1) (by (simp only [List.getElem?_toArray, List.getElem?_cons_succ, List.getElem?_cons_zero]) <;> rfl) (by kernel_rfl) (by kernel_rfl) (by kernel_rfl) (by intro _ _ _ _ h; exact h) (by rfl) (by assumption) ?_
      apply Exists.intro
      refine ⟨?_, ?_⟩
      · intro W0 hSw
        try dsimp only at hSw
        go_simp
        try (with_reducible rfl)
      try simp only [Act.put, List.setIfInBounds_toArray, List.set_cons_zero, List.set_cons_succ]
      refine take_on (i := 2) (by (simp only [List.getElem?_toArray, List.getElem?_cons_succ, List.getElem?_cons_zero]) <;> rfl) (by kernel_rfl) (by kernel_rfl) (by kernel_rfl) (by intro _ _ _ _ h; exact h) (by rfl) (by assumption) ?_
      apply Exists.intro
      refine ⟨?_, ?_⟩
      · intro W0 hSw
        try dsimp only at hSw
        go_simp
        try (with_reducible rfl)
      try simp only [Act.put, List.setIfInBounds_toArray, List.set_cons_zero, List.set_cons_succ]
      refine take_on (i := 3) (by (simp only [List.getElem?_toArray, List.getElem?_cons_succ, List.getElem?_cons_zero]) <;> rfl) (by kernel_rfl) (by kernel_rfl) (by kernel_rfl) (by intro _ _ _ _ h; exact h) (by rfl) (by assumption) ?_
      apply Exists.intro
      refine ⟨?_, ?_⟩
      · intro W0 hSw
        try dsimp only at hSw
        go_simp
        try (with_reducible rfl)
      try simp only [Act.put, List.setIfInBounds_toArray, List.set_cons_zero, List.set_cons_succ]
      refine take_on (i := 4) (by (simp only [List.getElem?_toArray, List.getElem?_cons_succ, List.getElem?_cons_zero]) <;> rfl) (by kernel_rfl) (by kernel_rfl) (by kernel_rfl) (by intro _ _ _ _ h; exact h) (by rfl) (by assumption) ?_
      apply Exists.intro
      refine ⟨?_, ?_⟩
      · intro W0 hSw
        try dsimp only at hSw
        go_simp
        try (with_reducible rfl)
      try simp only [Act.put, List.setIfInBounds_toArray, List.set_cons_zero, List.set_cons_succ]
      refine take_on (i := 5) (by (simp only [List.getElem?_toArray, List.getElem?_cons_succ, List.getElem?_cons_zero]) <;> rfl) (by kernel_rfl) (by kernel_rfl) (by kernel_rfl) (by intro _ _ _ _ h; exact h) (by rfl) (by assumption) ?_
      apply Exists.intro
      refine ⟨?_, ?_⟩
      · intro W0 hSw
        try dsimp only at hSw
        go_simp
        try (with_reducible rfl)
      try simp only [Act.put, List.setIfInBounds_toArray, List.set_cons_zero, List.set_cons_succ]
      refine take_on (i := 6) (by (simp only [List.getElem?_toArray, List.getElem?_cons_succ, List.getElem?_cons_zero]) <;> rfl) (by kernel_rfl) (by kernel_rfl) (by kernel_rfl) (by intro _ _ _ _ h; exact h) (by rfl) (by assumption) ?_
      apply Exists.intro
      refine ⟨?_, ?_⟩
      · intro W0 hSw
        try dsimp only at hSw
        go_simp
        try (with_reducible rfl)
      try simp only [Act.put, List.setIfInBounds_toArray, List.set_cons_zero, List.set_cons_succ]
      refine take_on (i := 7) (by (simp only [List.getElem?_toArray, List.getElem?_cons_succ, List.getElem?_cons_zero]) <;> rfl) (by kernel_rfl) (by kernel_rfl) (by kernel_rfl) (by intro _ _ _ _ h; exact h) (by rfl) (by assumption) ?_
      apply Exists.intro
      refine ⟨?_, ?_⟩
      · intro W0 hSw
        try dsimp only at hSw
        go_simp
        try (with_reducible rfl)
      try simp only [Act.put, List.setIfInBounds_toArray, List.set_cons_zero, List.set_cons_succ]
      refine take_on (i := 8) (by (simp only [List.getElem?_toArray, List.getElem?_cons_succ, List.getElem?_cons_zero]) <;> rfl) (by kernel_rfl) (by kernel_rfl) (by kernel_rfl) (by intro _ _ _ _ h; exact h) (by rfl) (by assumption) ?_
      apply Exists.intro
      refine ⟨?_, ?_⟩
      · intro W0 hSw
        try dsimp only at hSw
        go_simp
        try (with_reducible rfl)
      try simp only [Act.put, List.setIfInBounds_toArray, List.set_cons_zero, List.set_cons_succ]
      refine take_on (i := 9) (by (simp only [List.getElem?_toArray, List.getElem?_cons_succ, List.getElem?_cons_zero]) <;> rfl) (by kernel_rfl) (by kernel_rfl) (by kernel_rfl) (by intro _ _ _ _ h; exact h) (by rfl) (by assumption) ?_
      apply Exists.intro
      refine ⟨?_, ?_⟩
      · intro W0 hSw
        try dsimp only at hSw
        go_simp
        try (with_reducible rfl)
      try simp only [Act.put, List.setIfInBounds_toArray, List.set_cons_zero, List.set_cons_succ]
      refine take_on (i := 10) (by (simp only [List.getElem?_toArray, List.getElem?_cons_succ, List.getElem?_cons_zero]) <;> rfl) (by kernel_rfl) (by kernel_rfl) (by kernel_rfl) (by intro _ _ _ _ h; exact h) (by rfl) (by assumption) ?_
      apply Exists.intro
      refine ⟨?_, ?_⟩
      · intro W0 hSw
        try dsimp only at hSw
        go_simp
        try (with_reducible rfl)
      try simp only [Act.put, List.setIfInBounds_toArray, List.set_cons_zero, List.set_cons_succ]
      refine wpAnyH_ready (rs := [11]) (by kernel_rfl) (by simp) ?_
      refine AllReadyH.cons (by (simp only [List.getElem?_toArray, List.getElem?_cons_succ, List.getElem?_cons_zero]) <;> rfl) (fun K hK => ?_) AllReadyH.nil
      go_simp
      have hkeep := ES.cell 2 rfl 1 rfl
      refine hK.out _ _ ?_ (fun hHeld => ?_)
      · (try dsimp only)
        first | (exact hkeep) | (go_keep)
      clear hK K
      try simp only [Act.put, List.setIfInBounds_toArray, List.set_cons_zero, List.set_cons_succ]
      refine take_on (i := 12) (by (simp only [List.getElem?_toArray, List.getElem?_cons_succ, List.getElem?_cons_zero]) <;> rfl) (by kernel_rfl) (by kernel_rfl) (by kernel_rfl) (by intro _ _ _ _ h; exact h) (by rfl) (by assumption) ?_
      apply Exists.intro
      refine ⟨?_, ?_⟩
      · intro W0 hSw
        try dsimp only at hSw
        go_simp
        try (with_reducible rfl)
      try simp only [Act.put, List.setIfInBounds_toArray, List.set_cons_zero, List.set_cons_succ]
      refine take_on (i := 13) (by (simp only [List.getElem?_toArray, List.getElem?_cons_succ, List.getElem?_cons_zero]) <;> rfl) (by kernel_rfl) (by kernel_rfl) (by kernel_rfl) (by intro _ _ _ _ h; exact h) (by rfl) (by assumption) ?_
      apply Exists.intro
      refine ⟨?_, ?_⟩
      · intro W0 hSw
        try dsimp only at hSw
        go_simp
        try (with_reducible rfl)
      try simp only [Act.put, List.setIfInBounds_toArray, List.set_cons_zero, List.set_cons_succ]
      refine wpAnyH_ready (rs := [14]) (by kernel_rfl) (by simp) ?_
      refine AllReadyH.cons (by (simp only [List.getElem?_toArray, List.getElem?_cons_succ, List.getElem?_cons_zero]) <;> rfl) (fun K hK => ?_) AllReadyH.nil
      refine wp_store_mid 37 _ _ rfl bp 17 _ rfl rfl (ES.thereMid 0 rfl 17 8 (by simp)) (by kernel_rfl) (by simp [Value.oneCell']) ?_
      have hkeep := EM.cell 2 rfl 1 rfl
      refine hK.out _ _ ?_ (fun hHeld => ?_)
      · (try dsimp only)
        first | (exact hkeep) | (go_keep)
      clear hK K
      try simp only [Act.put, List.setIfInBounds_toArray, List.set_cons_zero, List.set_cons_succ]
      refine wpAnyH_done (by kernel_rfl) ?_ _
      have E8 := EM.drop 2
      simp at E8
      go_wp2
      go_ret
      exact .inr ⟨HE.out, rfl, Q, cq, hq, by rw [hrl]; exact oq, by rw [hrl, hnv, hyr, hrv]; exact E8⟩
end Go.Proofs.YtnfedcaehkcffaaGreat
end
section
/- '==' and '!=' of structs as one Bool. No program is named here. -/
namespace Go.Sl
open Go Go.RowKit
section
variable {P : Program} {d : Nat} {xs ys : Array Value} {f : Field} {fs : List Field} {a b : Value} {r s : Bool} {w : World}

theorem eqFields_nil : (Op.eqFields d xs ys []).run P w = .ok true w := by simp [Op.eqFields]
theorem eqFields_cons (hn : (f.name == "_") = false) (ha : (Go.part f.type xs f.offset).run P w = .ok a w) (hb : (Go.part f.type ys f.offset).run P w = .ok b w)
    (he : (Op.equalIn d f.type a b).run P w = .ok r w) (hr : (Op.eqFields d xs ys fs).run P w = .ok s w) : (Op.eqFields d xs ys (f :: fs)).run P w = .ok (r && s) w := by
  have hn' : f.name ≠ "_" := by simpa using hn
  rw [Op.eqFields]
  simp only [if_pos hn', Sem.run_bind, ha, hb, he, Result.andThen_ok]
  cases r
  · simp
  · simpa using hr
theorem equalIn_struct {t : TypeId} {fs : Array Field} (hu : P.underlying t = some (.struct fs)) (hp : P.stoodInHeld t = false)
    (h : (Op.eqFields d xs ys fs.toList).run P w = .ok r w) : (Op.equalIn (d + 1) t (.agg xs) (.agg ys)).run P w = .ok r w := by
  have hf : P.fieldsOf t = fs := by simp [Program.fieldsOf, hu]
  rw [run_equalIn_struct (P := P) w d t xs ys (by rw [hf]; exact hu) hp, hf]
  exact h
theorem neq_struct {t : TypeId} (h : (Op.equalIn 10000 t (.agg xs) (.agg ys)).run P w = .ok r w) : (binOp .neq t (.agg xs) (.agg ys)).run P w = .ok (.bool (!r)) w := by
  rw [run_neq_struct, h]; rfl
theorem eql_struct {t : TypeId} (h : (Op.equalIn 10000 t (.agg xs) (.agg ys)).run P w = .ok r w) : (binOp .eql t (.agg xs) (.agg ys)).run P w = .ok (.bool r) w := by
  rw [run_eql_struct, h]; rfl
end
end Go.Sl
end
section
/- '==' and '!=' of roll.Row. -/
namespace Go.Proofs.YtnfedcaehkcffaaGreat
open Go.RowKit Go.Sl
set_option maxHeartbeats 1000000
set_option maxRecDepth 100000
theorem equalIn_row (d : Nat) (x0 y0 : Int) (x1 y1 : Int) (x2 y2 : Int) (x3 y3 : Int) (x4 y4 : Int) (w : World) : (Op.equalIn (d + 2) 65 (.agg #[.int .i64 x0, .int .i64 x1, .int .i64 x2, .int .i64 x3, .int .i64 x4]) (.agg #[.int .i64 y0, .int .i64 y1, .int .i64 y2, .int .i64 y3, .int .i64 y4])).run Tryz.prog w = .ok (x0 == y0 && (x1 == y1 && (x2 == y2 && (x3 == y3 && (x4 == y4 && (true)))))) w := by
  refine equalIn_struct (d := d + 1) Tryz.underlying65 (by kernel_rfl) ?_
  refine eqFields_cons (by rfl) (by go_simp; rfl) (by go_simp; rfl) (by go_simp) ?_
  refine eqFields_cons (by rfl) (by go_simp; rfl) (by go_simp; rfl) (by go_simp) ?_
  refine eqFields_cons (by rfl) (by go_simp; rfl) (by go_simp; rfl) (by go_simp) ?_
  refine eqFields_cons (by rfl) (by go_simp; rfl) (by go_simp; rfl) (by go_simp) ?_
  refine eqFields_cons (by rfl) (by go_simp; rfl) (by go_simp; rfl) (by go_simp) ?_
  exact eqFields_nil
theorem eqc_row (x y : SWay) : (x.cls == y.cls && (x.yr == y.yr && (x.opn == y.opn && (x.mov == y.mov && (x.clo == y.clo && (true)))))) = decide (x = y) := by
  rw [Bool.eq_iff_iff]; cases x; cases y; simp
theorem ne_row (x y : SWay) (w : World) : (binOp .neq 65 (.agg #[.int .i64 x.cls, .int .i64 x.yr, .int .i64 x.opn, .int .i64 x.mov, .int .i64 x.clo]) (.agg #[.int .i64 y.cls, .int .i64 y.yr, .int .i64 y.opn, .int .i64 y.mov, .int .i64 y.clo])).run Tryz.prog w = .ok (.bool (neB x y)) w := by
  have h := equalIn_row 9998 x.cls y.cls x.yr y.yr x.opn y.opn x.mov y.mov x.clo y.clo w
  simp only [Nat.reduceAdd] at h
  rw [neq_struct h, eqc_row]; rfl
theorem eq_row (x y : SWay) (w : World) : (binOp .eql 65 (.agg #[.int .i64 x.cls, .int .i64 x.yr, .int .i64 x.opn, .int .i64 x.mov, .int .i64 x.clo]) (.agg #[.int .i64 y.cls, .int .i64 y.yr, .int .i64 y.opn, .int .i64 y.mov, .int .i64 y.clo])).run Tryz.prog w = .ok (.bool (eqB x y)) w := by
  have h := equalIn_row 9998 x.cls y.cls x.yr y.yr x.opn y.opn x.mov y.mov x.clo y.clo w
  simp only [Nat.reduceAdd] at h
  rw [eql_struct h, eqc_row]; rfl
end Go.Proofs.YtnfedcaehkcffaaGreat
end
section
/- law11.wakes: the document's example of chapter 11. -/
namespace Go.Proofs.YtnfedcaehkcffaaGreat
open Go.RowKit Go.Sl
set_option maxHeartbeats 1000000
set_option maxRecDepth 100000
/-- Forward, in a body's own memory. -/
theorem Rol.forward {w0 w : World} {l : List Hp} (E : Env w0 w l) {A B : Option Addr} {ca cb : Nat} {xs ys : List STri} {h k : Hp} (sx : Sl kTri h A ca xs) (hs : h.sub w) (sy : Sl kTri k B cb ys) (ks : k.sub w) (hx : xs.length ≤ 1000) (hy : ys.length ≤ 1000) (n m : Nat) (hn : xs.length = n) (hm : ys.length = m) {q : List SWay} (hq : fwd xs ys = q) :
    Calls Tryz.prog 106 #[.slice A n ca, .slice B m cb] w fun e w' => ∃ C cap h', e = .returned (.slice C q.length cap) ∧ Ow kWay h' C cap q ∧ Env w0 w' (l ++ [h']) := by
  subst hn
  subst hm
  subst hq
  exact (forward_calls A B ca cb xs ys h k w hs ks sx sy hx hy).mono fun _ _ ⟨C, cap, h', he, ho, u⟩ => ⟨C, cap, h', he, ho, E.new u⟩
end Go.Proofs.YtnfedcaehkcffaaGreat
end
