/- Walks and plain facts that the laws of this seat share, part 6: contracts of functions, each said at its theorem. -/
import Derived.Test.YtpigoegjoagbnaaPk5
import Derived.Deep.RegionHeld3
import Derived.WalkKit
import Derived.Laws.StructEq
import Derived.Deep.Slices
import Derived.ChangeShapes
import Derived.ChangeArms
import Derived.OwnWalk
import Derived.Deep.QuietTactic
import Derived.BigQuiet
import Derived.StillTailTactics
import Derived.Deep.DeepCutAuto
set_option linter.all false
section
/- current.Tax in a body's own memory. -/
namespace Go.Sl
open Go Go.RowKit
theorem Own.append {w : World} : ∀ {l m : List Hp}, Own w l → Own w m → (∀ h ∈ l, ∀ k ∈ m, h.apart k) → Own w (l ++ m)
  | [], _, _, o, _ => o
  | h :: l, m, o, p, a => ⟨o.1, fun k hk => by
      rcases List.mem_append.1 hk with hk | hk
      · exact o.2.1 k hk
      · exact a h (by simp) k hk, o.2.2.append p fun x hx k hk => a x (by simp [hx]) k hk⟩
/-- What a call made since, beside what there was. -/
theorem Env.join {w0 w w1 : World} {l m : List Hp} (E : Env w0 w l) (F : Env w w1 m) : Env w0 w1 (l ++ m) :=
  ⟨(E.own.below F.low).append F.own fun h hh k hk b hb => by
    cases e : k b with
    | none => rfl
    | some o =>
      have h1 := F.fr k hk b (by simp [e])
      have h2 := (E.own.mem h hh).lt hb
      omega, fun h hh q hq => by
    rcases List.mem_append.1 hh with hh | hh
    · exact E.fr h hh q hq
    · exact Nat.le_trans E.low.size (F.fr h hh q hq), E.low.trans (F.low.mono E.low.size)⟩
end Go.Sl
namespace Go.Proofs.Ytpigoegjoagbnaa
open Go.RowKit Go.Sl
set_option maxHeartbeats 1000000
set_option maxRecDepth 100000
section
variable {w0 w : World} {L : List Hp} {h : Hp} {b : Nat} {l : List STri}
theorem Vnt.tax_err (S : Vnt h b l) (E : Env w0 w L) (i : Nat) (hi : L[i]? = some h) (bk pm mv most life year r : Int) {q : Int} (hE : curE l bk pm mv most life year r = q) (h0 : q ≠ 0) :
    Calls Try.prog 30 #[.pointer (some ⟨b, 0, none⟩), .int .i64 bk, .int .i64 pm, .int .i64 mv, .int .i64 most, .int .i64 life, .int .i64 year, .int .i64 r] w fun e w' =>
      e = .returned (.tuple #[.agg #[.int .i64 0, .int .i64 0, .int .i64 0, .int .i64 0, .int .i64 0, .int .i64 0, .slice none 0 0], .pointer none, .int .i64 q]) ∧ Env w0 w' L :=
  (curTax_calls h b l bk pm mv most life year r w (E.sub i hi) S).mono fun _ _ hh => by
    rcases hh with ⟨_, he, hb⟩ | ⟨h1, _⟩
    · rw [hE] at he; exact ⟨he, E.below hb⟩
    · exact absurd (hE.symm.trans h1) h0
theorem Vnt.tax_ok (S : Vnt h b l) (E : Env w0 w L) (i : Nat) (hi : L[i]? = some h) (bk pm mv most life year r : Int) (hE : curE l bk pm mv most life year r = 0)
    {inc vg us nw tx ov : Int} {vec : List Int} {nx : List STri} {n : Nat} (r1 : incV bk pm mv = inc) (r2 : vGone l year = vg) (r3 : curVec l inc most year = vec) (r4 : vec.sum = us) (r5 : curNew inc = nw) (r6 : curTaxable l inc most year = tx) (r7 : ofVal tx r = ov) (r8 : curNext l inc most life year = nx) (r9 : vec.length = n) :
    Calls Try.prog 30 #[.pointer (some ⟨b, 0, none⟩), .int .i64 bk, .int .i64 pm, .int .i64 mv, .int .i64 most, .int .i64 life, .int .i64 year, .int .i64 r] w fun e w' =>
      ∃ h' b' hv V cap, e = .returned (.tuple #[.agg #[.int .i64 inc, .int .i64 vg, .int .i64 us, .int .i64 nw, .int .i64 tx, .int .i64 ov, .slice V n cap], .pointer (some ⟨b', 0, none⟩), .int .i64 0]) ∧
        Vnt h' b' nx ∧ Ow kInt hv V cap vec ∧ Env w0 w' (L ++ [h', hv]) := by
  subst r1 r2 r3 r4 r5 r6 r7 r8 r9
  exact (curTax_calls h b l bk pm mv most life year r w (E.sub i hi) S).mono fun _ _ hh => by
    rcases hh with ⟨h1, _⟩ | ⟨_, h', b', hv, V, cap, he, hS, ho, hE'⟩
    · exact absurd hE h1
    · exact ⟨h', b', hv, V, cap, he, hS, ho, E.join hE'⟩
end
end Go.Proofs.Ytpigoegjoagbnaa
end
section
/- The walk of law15.wakes. -/
namespace Go.Proofs.Ytpigoegjoagbnaa
open Go.RowKit Go.Sl
set_option maxHeartbeats 1000000
set_option maxRecDepth 100000
theorem wakes15 (w : World) : Calls Try.prog 31 #[] w fun e w' => e = .returned (.bool true) ∧ Below w.heap.size w w' := by
  have E0 := Env.start w
  have HE : curE [] 100 0 0 0 3 5 250000 = 0 := by decide
  have HI : incV 100 0 0 = 100 := by decide
  have HT : curTaxable [] 100 0 5 = 100 := by decide
  have HV : curVec [] 100 0 5 = [] := by decide
  have HO : ofVal 100 250000 = 25 := by decide
  have HG : vGone [] 5 = 0 := by decide
  have HN : curNew 100 = 0 := by decide
  have TC := fun (W : World) (h : Hp) (b : Nat) (hs : h.sub W) (S : Vnt h b []) => curTax_calls h b [] 100 0 0 0 3 5 250000 W hs S
  rw [HE, HI] at TC
  have TC2 : ∀ (W : World) (h : Hp) (b : Nat), h.sub W → Vnt h b [] → Calls Try.prog 30 #[.pointer (some ⟨b, 0, none⟩), .int .i64 100, .int .i64 0, .int .i64 0, .int .i64 0, .int .i64 3, .int .i64 5, .int .i64 250000] W fun e w' => ∃ b' V cap, e = .returned (.tuple #[.agg #[.int .i64 100, .int .i64 0, .int .i64 0, .int .i64 0, .int .i64 100, .int .i64 25, .slice V 0 cap], .pointer (some ⟨b', 0, none⟩), .int .i64 0]) ∧ Below W.heap.size W w' := fun W h b hs S => (TC W h b hs S).mono fun e w' hh => by
    rcases hh with ⟨h1, _, _⟩ | ⟨_, h', b', hv, V, cap, he, _, _, E'⟩
    · exact absurd rfl h1
    · rw [HT, HV, HO, HG, HN] at he
      exact ⟨b', V, cap, he, E'.low⟩
  clear TC HE HI HT HV HO HG HN
  go_enter Try.func31, Try.ntmps31
  go_wp2_with fail
  refine (Vnt.new E0).mono ?_
  rintro e w1 ⟨h1, c, rfl, S1, E1⟩
  try simp at E1
  go_wp2_with fail
  refine (TC2 _ h1 c (E1.sub 0 rfl) S1).mono ?_
  rintro e w2 ⟨b', V, cap, rfl, B2⟩
  have E2 := E1.below B2
  go_wp2
  go_ret
  exact ⟨rfl, (E2.alloc' _).low⟩
end Go.Proofs.Ytpigoegjoagbnaa
end
section
/- keep.Same over int: the same things? -/
namespace Go.Proofs.Ytpigoegjoagbnaa
open Go.RowKit Go.Sl
set_option maxHeartbeats 1000000
set_option maxRecDepth 100000
theorem same_int (A B : Option Addr) (ca cb : Nat) (xs ys : List Int) (h k : Hp) (w : World) (hs : h.sub w) (ks : k.sub w) (sx : Sl kInt h A ca xs) (sy : Sl kInt k B cb ys) :
    Calls Try.prog 28 #[.slice A xs.length ca, .slice B ys.length cb] w fun e w' => e = .returned (.bool (eqB xs ys)) ∧ Below w.heap.size w w' := by
  have m1 := sx.small
  have m2 := sy.small
  by_cases hl : xs.length = ys.length
  · have hl1 : ((xs.length : Int) == (ys.length : Int)) = true := by simp [hl]
    have hl2 : ((xs.length : Int) != (ys.length : Int)) = false := by simp [hl]
    have hL := Lib.hid hl
    clear hl
    go_enter Try.func28, Try.ntmps28
    go_wp2
    clear hl1 hl2
    go_loopw [5] (fun i wr => ∃ j : Nat, j ≤ xs.length ∧ i = .int .i64 j ∧ Hid (xs.take j = ys.take j) ∧ Below w.heap.size w wr) (fun i _ => xs.length - (intOf i).toNat)
    case atStart => exact ⟨0, by omega, rfl, rfl, Below.refl _ _⟩
    case round =>
      obtain ⟨j, hj, rfl, he, hb⟩ := hrel
      by_cases hlt : j < xs.length
      · have hlt2 : j < ys.length := by have := hL.out; omega
        obtain ⟨x, hx⟩ := some_of_lt hlt
        obtain ⟨y, hy⟩ := some_of_lt hlt2
        obtain ⟨b1, o1, rfl, c1⟩ := sx.int (hs.of_below hb) hx
        obtain ⟨b2, o2, rfl, d1⟩ := sy.int (ks.of_below hb) hy
        have i1 : (0 : Int) ≤ (j : Int) := by omega
        have i2 : (j : Int) < (xs.length : Int) := by omega
        have i3 : (j : Int) < (ys.length : Int) := by omega
        have hE := take_both hx hy
        by_cases hxy : x = y
        · have hd : (x != y) = false := by simpa using hxy
          have hE2 := hE.2 ⟨he, hxy⟩
          clear hxy hE
          go_wp2
          go_region_held3 (fun w' => w'.cell? ⟨b1, o1 + j, none⟩ = some (.int .i64 x) ∧ w'.cell? ⟨b2, o2 + j, none⟩ = some (.int .i64 y)) (go_keep) (fail)
          go_wp2
          go_roundw
          case rel => exact ⟨j + 1, by omega, by go_num, hE2, hb.drew⟩
          case measure => simp [intOf]; omega
        · have hd : (x != y) = true := by simpa using hxy
          have hne : Hid (xs ≠ ys) := fun e => hxy (by have := hx.out; rw [e, hy.out] at this; exact (Option.some.inj this).symm)
          clear hxy hE
          go_wp2
          go_region_held3 (fun w' => w'.cell? ⟨b1, o1 + j, none⟩ = some (.int .i64 x) ∧ w'.cell? ⟨b2, o2 + j, none⟩ = some (.int .i64 y)) (go_keep) (fail)
          go_wp2
          go_ret
          exact ⟨by rw [eqB_f hne.out]; rfl, hb.drew⟩
      · have hfin : Hid (xs = ys) := by
          have h1 := he.out
          have hjl : j = xs.length := by omega
          rw [hjl, List.take_length] at h1
          rw [h1, hL.out, List.take_length]; rfl
        go_wp2
        go_ret
        exact ⟨by rw [eqB_t hfin.out]; rfl, hb⟩
  · have hl1 : ((xs.length : Int) == (ys.length : Int)) = false := by simp; omega
    have hl2 : ((xs.length : Int) != (ys.length : Int)) = true := by simp; omega
    have hne : Hid (xs ≠ ys) := fun e => hl (by rw [e])
    clear hl
    go_enter Try.func28, Try.ntmps28
    go_wp2
    go_ret
    exact ⟨by rw [eqB_f hne.out]; rfl, Below.refl _ _⟩
end Go.Proofs.Ytpigoegjoagbnaa
end
section
/- '==' and '!=' of structs as one Bool. No program is named here. -/
namespace Go.Sl
open Go Go.RowKit
section
variable {P : Program} {d : Nat} {xs ys : Array Value} {f : Field} {fs : List Field} {a b : Value} {r s : Bool} {w : World}

theorem eqFields_nil : (Op.eqFields d xs ys []).run P w = .ok true w := by simp [Op.eqFields]
theorem eqFields_cons (hn : (f.name == "_") = false) (ha : (Go.part f.type xs f.offset).run P w = .ok a w) (hb : (Go.part f.type ys f.offset).run P w = .ok b w)
    (he : (Op.equalIn d f.type a b).run P w = .ok r w) (hr : (Op.eqFields d xs ys fs).run P w = .ok s w) : (Op.eqFields d xs ys (f :: fs)).run P w = .ok (r && s) w := by
  have hn' : f.name ≠ "_" := by simpa using hn
  rw [Op.eqFields]
  simp only [if_pos hn', Sem.run_bind, ha, hb, he, Result.andThen_ok]
  cases r
  · simp
  · simpa using hr
theorem equalIn_struct {t : TypeId} {fs : Array Field} (hu : P.underlying t = some (.struct fs)) (hp : P.stoodInHeld t = false)
    (h : (Op.eqFields d xs ys fs.toList).run P w = .ok r w) : (Op.equalIn (d + 1) t (.agg xs) (.agg ys)).run P w = .ok r w := by
  have hf : P.fieldsOf t = fs := by simp [Program.fieldsOf, hu]
  rw [run_equalIn_struct (P := P) w d t xs ys (by rw [hf]; exact hu) hp, hf]
  exact h
theorem neq_struct {t : TypeId} (h : (Op.equalIn 10000 t (.agg xs) (.agg ys)).run P w = .ok r w) : (binOp .neq t (.agg xs) (.agg ys)).run P w = .ok (.bool (!r)) w := by
  rw [run_neq_struct, h]; rfl
theorem eql_struct {t : TypeId} (h : (Op.equalIn 10000 t (.agg xs) (.agg ys)).run P w = .ok r w) : (binOp .eql t (.agg xs) (.agg ys)).run P w = .ok (.bool r) w := by
  rw [run_eql_struct, h]; rfl
end
end Go.Sl
end
section
/- '==' and '!=' of api.Vintage. -/
namespace Go.Proofs.Ytpigoegjoagbnaa
open Go.RowKit Go.Sl
set_option maxHeartbeats 1000000
set_option maxRecDepth 100000
theorem equalIn_vint (d : Nat) (x0 y0 : Int) (x1 y1 : Int) (x2 y2 : Int) (w : World) : (Op.equalIn (d + 2) 34 (.agg #[.int .i64 x0, .int .i64 x1, .int .i64 x2]) (.agg #[.int .i64 y0, .int .i64 y1, .int .i64 y2])).run Try.prog w = .ok (x0 == y0 && (x1 == y1 && (x2 == y2 && (true)))) w := by
  refine equalIn_struct (d := d + 1) Try.underlying34 (by kernel_rfl) ?_
  refine eqFields_cons (by rfl) (by go_simp; rfl) (by go_simp; rfl) (by go_simp) ?_
  refine eqFields_cons (by rfl) (by go_simp; rfl) (by go_simp; rfl) (by go_simp) ?_
  refine eqFields_cons (by rfl) (by go_simp; rfl) (by go_simp; rfl) (by go_simp) ?_
  exact eqFields_nil
theorem eqc_vint (x y : STri) : (x.a == y.a && (x.b == y.b && (x.c == y.c && (true)))) = decide (x = y) := by
  rw [Bool.eq_iff_iff]; cases x; cases y; simp
theorem ne_vint (x y : STri) (w : World) : (binOp .neq 34 (.agg #[.int .i64 x.a, .int .i64 x.b, .int .i64 x.c]) (.agg #[.int .i64 y.a, .int .i64 y.b, .int .i64 y.c])).run Try.prog w = .ok (.bool (neB x y)) w := by
  have h := equalIn_vint 9998 x.a y.a x.b y.b x.c y.c w
  simp only [Nat.reduceAdd] at h
  rw [neq_struct h, eqc_vint]; rfl
theorem eq_vint (x y : STri) (w : World) : (binOp .eql 34 (.agg #[.int .i64 x.a, .int .i64 x.b, .int .i64 x.c]) (.agg #[.int .i64 y.a, .int .i64 y.b, .int .i64 y.c])).run Try.prog w = .ok (.bool (eqB x y)) w := by
  have h := equalIn_vint 9998 x.a y.a x.b y.b x.c y.c w
  simp only [Nat.reduceAdd] at h
  rw [eql_struct h, eqc_vint]; rfl
end Go.Proofs.Ytpigoegjoagbnaa
end
section
/- A region that draws its order, walked operation by operation in the order of the text. No program is named here. -/
namespace Go.Sl
open Go Go.RowKit
section
variable {P : Program} {ops : Array Oper} {Q : Exit → Act → World → Prop} {md : Region.Mode} {S : World → Prop}
/-- An operation that is wanted and yields its value in every world that meets S is taken first. -/
theorem take_on {i : Nat} {oi : Oper} {fuel : Nat} {listed : Array Bool} {a : Act} {w : World} (hi : ops[i]? = some oi)
    (hs : Region.noSelect ops = true) (hf : Region.free md ops listed i = true) (hr : (Region.ready md ops listed).contains i = true)
    (hQ : ∀ c (a : Act) w (v : Value), Q (.panic c) (a.put oi.dst v) w → Q (.panic c) a w) (hw : Region.wanted oi (yielded ops a.tmps) = true) (hS : S w)
    (h : ∃ v, (∀ w, S w → (execOp a.eval oi).run P w = .ok (.value v) w) ∧ wpAnyH P md ops Q S fuel (listed.setIfInBounds i true) (a.put oi.dst v) w) : wpAnyH P md ops Q S (fuel + 1) listed a w := by
  obtain ⟨v, h1, h2⟩ := h
  exact wpAnyH_take hi hs hf hr (fun c a w h => hQ c a w _ h) (.inl ⟨hw, h1⟩) hS h2
/-- An operation that is not wanted is taken first. -/
theorem take_off {i : Nat} {oi : Oper} {fuel : Nat} {listed : Array Bool} {a : Act} {w : World} (hi : ops[i]? = some oi)
    (hs : Region.noSelect ops = true) (hf : Region.free md ops listed i = true) (hr : (Region.ready md ops listed).contains i = true)
    (hQ : ∀ c (a : Act) w (v : Value), Q (.panic c) (a.put oi.dst v) w → Q (.panic c) a w) (hw : Region.wanted oi (yielded ops a.tmps) = false) (hS : S w)
    (h : wpAnyH P md ops Q S fuel (listed.setIfInBounds i true) (a.put oi.dst undef) w) : wpAnyH P md ops Q S (fuel + 1) listed a w :=
  wpAnyH_take hi hs hf hr (fun c a w h => hQ c a w _ h) (.inr ⟨hw, rfl⟩) hS h
end
end Go.Sl
end
section
/- A slice of structs of whole numbers, as an argument's reading gives it. No program is named here. -/
namespace Go.Sl
open Go Go.RowKit Go.Deep Go.ChangeShapes
/-- n whole numbers, by their places. -/
def kFun (n : Nat) (pos : 0 < n) : Kd (Nat → Int) := Kd.flat n (fun x => (List.range n).map fun i => .int .i64 (x i)) pos (by simp) (fun x u h => by
  obtain ⟨i, _, rfl⟩ := List.mem_map.1 h; rfl)
theorem Sl.fn {n : Nat} {pos : 0 < n} {h : Hp} {A : Option Addr} {cap : Nat} {xs : List (Nat → Int)} {w : World} (s : Sl (kFun n pos) h A cap xs) (hs : h.sub w) {i : Nat} {x : Nat → Int} (hx : Hid (xs[i]? = some x)) :
    ∃ b off, A = some ⟨b, off, .none⟩ ∧ ∀ j, j < n → w.cell? ⟨b, off + i * n + j, .none⟩ = some (.int .i64 (x j)) := by
  obtain ⟨b, off, cs, e, hK, _, hc⟩ := s.at hs hx.out
  have hK' : cs = (List.range n).map fun i => .int .i64 (x i) := hK
  subst hK'
  exact ⟨b, off, e, fun j hj => hc j _ (by simp [hj])⟩
theorem Sl.fn3 {pos : 0 < 3} {h : Hp} {A : Option Addr} {cap : Nat} {xs : List (Nat → Int)} {w : World} (s : Sl (kFun 3 pos) h A cap xs) (hs : h.sub w) {i : Nat} {x : Nat → Int} (hx : Hid (xs[i]? = some x)) :
    ∃ b off, A = some ⟨b, off, .none⟩ ∧ w.cell? ⟨b, off + i * 3, .none⟩ = some (.int .i64 (x 0)) ∧ w.cell? ⟨b, off + i * 3 + 1, .none⟩ = some (.int .i64 (x 1)) ∧ w.cell? ⟨b, off + i * 3 + 2, .none⟩ = some (.int .i64 (x 2)) := by
  obtain ⟨b, off, e, hc⟩ := s.fn hs hx
  exact ⟨b, off, e, hc 0 (by omega), hc 1 (by omega), hc 2 (by omega)⟩
theorem Sl.fn4 {pos : 0 < 4} {h : Hp} {A : Option Addr} {cap : Nat} {xs : List (Nat → Int)} {w : World} (s : Sl (kFun 4 pos) h A cap xs) (hs : h.sub w) {i : Nat} {x : Nat → Int} (hx : Hid (xs[i]? = some x)) :
    ∃ b off, A = some ⟨b, off, .none⟩ ∧ w.cell? ⟨b, off + i * 4, .none⟩ = some (.int .i64 (x 0)) ∧ w.cell? ⟨b, off + i * 4 + 1, .none⟩ = some (.int .i64 (x 1)) ∧ w.cell? ⟨b, off + i * 4 + 2, .none⟩ = some (.int .i64 (x 2)) ∧ w.cell? ⟨b, off + i * 4 + 3, .none⟩ = some (.int .i64 (x 3)) := by
  obtain ⟨b, off, e, hc⟩ := s.fn hs hx
  exact ⟨b, off, e, hc 0 (by omega), hc 1 (by omega), hc 2 (by omega), hc 3 (by omega)⟩
theorem Sl.fn6 {pos : 0 < 6} {h : Hp} {A : Option Addr} {cap : Nat} {xs : List (Nat → Int)} {w : World} (s : Sl (kFun 6 pos) h A cap xs) (hs : h.sub w) {i : Nat} {x : Nat → Int} (hx : Hid (xs[i]? = some x)) :
    ∃ b off, A = some ⟨b, off, .none⟩ ∧ w.cell? ⟨b, off + i * 6, .none⟩ = some (.int .i64 (x 0)) ∧ w.cell? ⟨b, off + i * 6 + 1, .none⟩ = some (.int .i64 (x 1)) ∧ w.cell? ⟨b, off + i * 6 + 2, .none⟩ = some (.int .i64 (x 2)) ∧ w.cell? ⟨b, off + i * 6 + 3, .none⟩ = some (.int .i64 (x 3)) ∧ w.cell? ⟨b, off + i * 6 + 4, .none⟩ = some (.int .i64 (x 4)) ∧ w.cell? ⟨b, off + i * 6 + 5, .none⟩ = some (.int .i64 (x 5)) := by
  obtain ⟨b, off, e, hc⟩ := s.fn hs hx
  exact ⟨b, off, e, hc 0 (by omega), hc 1 (by omega), hc 2 (by omega), hc 3 (by omega), hc 4 (by omega), hc 5 (by omega)⟩
theorem open_acts {H : Type} {enc : TypeId × Value → H} {P : Program} {w : World} {held : Bool} {t e : TypeId} {fs : Array Field} {fuel : Nat} {cs : List Value} {x : DataW H × List MemPlace} (n : Nat) (pos : 0 < n)
    (ht : P.underlying t = some (.slice e)) (he : P.underlying e = some (.struct fs)) (hce : P.cellsOf e = n)
    (hf : ∀ i, i < n → ∃ f, fs[i]? = some f ∧ f.offset = i ∧ P.underlying f.type = some (.int .i64) ∧ P.cellsOf f.type = 1)
    (h : DataW.trod enc P w 0 (fun _ => true) held fuel t cs = some x) :
    ∃ A cap zs, cs = [.slice A (List.length zs) cap] ∧ Sl (kFun n pos) (Hp.all w) A cap zs ∧ ∀ z ∈ zs, ∀ j, j < n → I64 (z j) := by
  rcases open_slice ht h with ⟨rfl, _⟩ | ⟨a, len, cap, m, k, D, Pl, rfl, _, hl, hmx, hm, _, hel⟩
  · exact ⟨none, 0, [], rfl, Sl.none _ _, by simp⟩
  · simp at hm
    subst hm
    have each : ∀ i, i < len → ∃ z : Nat → Int, ∀ j, j < n → w.cell? (a.add (i * n + j)) = some (.int .i64 (z j)) ∧ I64 (z j) := by
      intro i hi
      obtain ⟨cs', h1, h2⟩ := hel i (by omega)
      rw [hce] at h1
      obtain ⟨xs, k', _, _, hcl, hxl, hfl⟩ := DataW.trod_struct he h2
      obtain ⟨_, hlen, hcell⟩ := World.cells?_some h1
      refine choose_lt (α := Int) (n := n) (p := fun j q => w.cell? (a.add (i * n + j)) = some (.int .i64 q) ∧ I64 q) fun j hj => ?_
      obtain ⟨f, f1, f2, f3, f4⟩ := hf j hj
      have ht := hfl j f f1
      rw [f2, f4] at ht
      have hjl : j < cs'.length := by omega
      have hd : (cs'.drop j).take 1 = [cs'[j]] := by rw [List.drop_eq_getElem_cons hjl]; rfl
      rw [hd] at ht
      cases hx : xs[j]? with
      | none => rw [hx] at ht; rename_i hxs; have h3 := (Array.getElem?_eq_some_iff.1 f1).1; rw [List.getElem?_eq_none_iff] at hx; omega
      | some y =>
        rw [hx] at ht
        obtain ⟨q, e1, _, e3⟩ := DataW.trod_int f3 ht
        refine ⟨q, ?_, I64.of_wf e3⟩
        have e4 : cs'[j] = .int .i64 q := by simpa using e1
        have e5 := hcell j (by omega)
        rw [List.getElem?_eq_getElem hjl, e4, add_add] at e5
        exact e5
    obtain ⟨F, hF⟩ := choose_lt (α := Nat → Int) each
    refine ⟨some a, m, (List.range len).map F, by simp, ⟨by simpa using hl, hmx, (fun e => (nomatch e)), fun i z hz => ?_⟩, fun z hz j hj => ?_⟩
    · rw [List.getElem?_map] at hz
      by_cases hi : i < len
      · rw [List.getElem?_range hi] at hz
        simp at hz; subst hz
        have hc := fun j hj => (hF i hi j hj).1
        obtain ⟨b, off, sp⟩ := a
        have h0 := (hF 0 (by omega) 0 pos).1
        rw [show 0 * n + 0 = 0 by omega, show ∀ a : Addr, a.add 0 = a from fun a => if_pos rfl] at h0
        have hsp : sp = .none := by
          unfold World.cell? at h0
          split at h0
          · cases sp with
            | none => rfl
            | some s => simp at h0
          · cases h0
        subst hsp
        have hb : ∃ cur E fr, w.heap[b]? = some (.cells cur E fr) ∧ ∀ j, j < n → cur[off + i * n + j]? = some (.int .i64 (F i j)) := by
          have h1 := h0
          unfold World.cell? at h1
          split at h1
          · rename_i cur E fr hb
            refine ⟨cur, E, fr, hb, fun j hj => ?_⟩
            have h2 := hc j hj
            rw [add_mk, cell_of_row w b _ cur E fr hb] at h2
            rw [Nat.add_assoc]; exact h2
          · cases h1
        obtain ⟨cur, E, fr, hb, hcur⟩ := hb
        refine ⟨b, off, cur, E, fr, _, rfl, hb, rfl, fun j u hu => ?_⟩
        rw [List.getElem?_map] at hu
        by_cases hj : j < n
        · rw [List.getElem?_range hj] at hu
          simp at hu; subst hu
          exact hcur j hj
        · rw [List.getElem?_eq_none (by simp; omega)] at hu; cases hu
      · rw [List.getElem?_eq_none (by simp; omega)] at hz; cases hz
    · obtain ⟨i, hi, rfl⟩ := List.mem_map.1 hz
      exact (hF i (List.mem_range.1 hi) j hj).2
end Go.Sl
end
section
/- The walk of ref01.Money. -/
namespace Go.Proofs.Ytpigoegjoagbnaa
open Go.RowKit Go.Sl
set_option maxHeartbeats 400000
theorem refMoney_calls (n : Int) (w : World) : Calls Try.prog 69 #[.int .i64 n] w fun e w' => e = .returned (.bool (money n)) ∧ w = w' := by
  go_enter Try.func69, Try.ntmps69
  go_wp2
  all_goals
    go_ret
    exact ⟨by simp [money]; omega, rfl⟩
end Go.Proofs.Ytpigoegjoagbnaa
end
section
/- The walks of ref01.Right, ref01.Part. -/
namespace Go.Proofs.Ytpigoegjoagbnaa
open Go.RowKit Go.Sl
set_option maxHeartbeats 2000000
set_option maxRecDepth 100000
theorem refRight_calls (r : Int) (w : World) : Calls Try.prog 57 #[.int .i64 r] w fun e w' => e = .returned (.bool (rightRate r)) ∧ w = w' := by
  go_enter Try.func57, Try.ntmps57
  go_wp2
  all_goals
    go_ret
    exact ⟨by simp [rightRate]; omega, rfl⟩
theorem refPart_calls (n r : Int) (w : World) : Calls Try.prog 63 #[.int .i64 n, .int .i64 r] w fun e w' => e = .returned (.int .i64 (ofVal n r)) ∧ w = w' := by
  go_enter Try.func63, Try.ntmps63
  go_wp2_with (go_at_call 71; refine (refOf_calls n r _).mono ?_; rintro e w' ⟨rfl, rfl⟩)
  go_ret
  exact ⟨rfl, rfl⟩
end Go.Proofs.Ytpigoegjoagbnaa
end
section
/- The reference's losses, plain: what its loops make. No program is named here. -/
namespace Go.Sl
open Go Go.RowKit
/-- The loop of Add. -/
def addGo (o e n : Int) : Bool → List STri → List STri
  | d, [] => if d = true then [] else [⟨o, e, n⟩]
  | d, y :: l =>
    if y.a = o ∧ y.b = e then ⟨y.a, y.b, y.c + n⟩ :: addGo o e n true l
    else if d = false ∧ (e < y.b ∨ y.b = e ∧ o < y.a) then ⟨o, e, n⟩ :: y :: addGo o e n true l
    else y :: addGo o e n d l
theorem addGo_true {o e n : Int} : ∀ {l : List STri}, (∀ y ∈ l, ¬(y.a = o ∧ y.b = e)) → addGo o e n true l = l
  | [], _ => rfl
  | y :: l, h => by
    unfold addGo
    rw [if_neg (h y (by simp)), if_neg (by simp), addGo_true fun z hz => h z (by simp [hz])]
theorem addGo_put {o e n : Int} : ∀ {l : List STri}, RisingV l → addGo o e n false l = putV l o e (getV l o e + n)
  | [], _ => by simp [addGo, putV, put, getV, find]
  | y :: l, h => by
    have ht := addGo_put (o := o) (e := e) (n := n) h.tail
    have hh := h.head
    unfold addGo
    rcases ordPair.tri (vkey y) (e, o) with h1 | h1 | h1
    · have hn := ordPair.ne h1
      have h2 := ordPair.asymm h1
      rw [if_neg fun hc => hn (by simp [vkey, hc.1, hc.2]), if_neg (by simp [ordPair, vkey] at h2 ⊢; omega), ht]
      have hg : getV (y :: l) o e = getV l o e := by simp [getV, find, hn]
      rw [hg]
      unfold putV put
      simp only [List.filter_cons, show vkey (⟨o, e, getV l o e + n⟩ : STri) = (e, o) from rfl, h1, h2, if_true, Bool.false_eq_true, if_false, List.cons_append]
    · have h3 : y.a = o ∧ y.b = e := by simp [vkey] at h1; exact ⟨h1.2, h1.1⟩
      have h2 : ∀ z ∈ l, ordPair.lt (e, o) (vkey z) = true := fun z hz => by rw [← h1]; exact hh z hz
      rw [if_pos h3, addGo_true fun z hz hc => ordPair.ne (h2 z hz) (by simp [vkey, hc.1, hc.2])]
      have hg : getV (y :: l) o e = y.c := by simp [getV, find, h1]
      rw [hg]
      unfold putV put
      have e1 : l.filter (fun z => ordPair.lt (vkey z) (e, o)) = [] := List.filter_eq_nil_iff.2 fun z hz => by rw [ordPair.asymm (h2 z hz)]; decide
      have e2 : l.filter (fun z => ordPair.lt (e, o) (vkey z)) = l := List.filter_eq_self.2 h2
      simp only [List.filter_cons, show vkey (⟨o, e, y.c + n⟩ : STri) = (e, o) from rfl, h1, ordPair.irrefl, Bool.false_eq_true, if_false, e1, e2, List.nil_append, h3.1, h3.2]
    · have h2 : ∀ z ∈ l, ordPair.lt (e, o) (vkey z) = true := fun z hz => ordPair.trans _ _ _ h1 (hh z hz)
      have hn := ordPair.ne h1
      have h3 := ordPair.asymm h1
      rw [if_neg fun hc => hn (by simp [vkey, hc.1, hc.2]), if_pos ⟨rfl, by simp [ordPair, vkey] at h1; omega⟩, addGo_true fun z hz hc => ordPair.ne (h2 z hz) (by simp [vkey, hc.1, hc.2])]
      have hg : getV (y :: l) o e = 0 := by
        unfold getV
        rw [find_miss fun z hz => ?_]
        rcases List.mem_cons.1 hz with rfl | hz
        · exact fun hc => hn hc.symm
        · exact fun hc => ordPair.ne (h2 z hz) hc.symm
      rw [hg, Int.zero_add]
      unfold putV put
      have e1 : l.filter (fun z => ordPair.lt (vkey z) (e, o)) = [] := List.filter_eq_nil_iff.2 fun z hz => by rw [ordPair.asymm (h2 z hz)]; decide
      have e2 : l.filter (fun z => ordPair.lt (e, o) (vkey z)) = l := List.filter_eq_self.2 h2
      simp only [List.filter_cons, show vkey (⟨o, e, n⟩ : STri) = (e, o) from rfl, h1, h3, if_true, Bool.false_eq_true, if_false, e1, e2, List.nil_append]
theorem addGo_len (o e n : Int) : ∀ (d : Bool) (l : List STri), (addGo o e n d l).length ≤ l.length + 1 ∧ (d = true → (addGo o e n d l).length = l.length)
  | d, [] => by cases d <;> simp [addGo]
  | d, y :: l => by
    have h1 := addGo_len o e n true l
    have h2 := addGo_len o e n d l
    have h3 := h1.2 rfl
    unfold addGo
    split
    · simp; omega
    · split
      · rename_i h; simp [h.1]; omega
      · simp; exact ⟨by omega, fun hd => h2.2 hd⟩
/-- What the reference's Add answers. -/
theorem refAddE {l : List STri} (g : GoodV l) (o e n : Int) : vAddE l o e n =
    if (vOk o e && (decide (1 ≤ n) && decide (n ≤ 100000000000))) = false then 1
    else if 100000000000 < sumC l + n then 6
    else if 12 < (putV l o e (getV l o e + n)).length then 5 else 0 := by
  have hs := sumC_pos g.lo
  have hm := g.mon
  have hl := g.len
  unfold vAddE
  have e1 : (decide (1 ≤ n) && money n) = (decide (1 ≤ n) && decide (n ≤ 100000000000)) := by
    rw [Bool.eq_iff_iff]; simp [money]; omega
  rw [e1]
  split
  · rfl
  · rename_i h
    simp at h
    have e2 : (money (sumC l + n) = false) ↔ 100000000000 < sumC l + n := by simp [money]; omega
    by_cases h2 : 100000000000 < sumC l + n
    · rw [if_pos (e2.2 h2), if_pos h2]
    · rw [if_neg fun h' => h2 (e2.1 h'), if_neg h2, len_putV g.rise]
      cases ha : l.any (isV o e) with
      | true => simp; omega
      | false => simp; split <;> rename_i h3 <;> split <;> omega
/-- The loop of Expire. -/
theorem exp_take {l : List STri} (y : Int) (j : Nat) (x : STri) (hx : Hid (l[j]? = some x)) : vGone (l.take (j + 1)) y = vGone (l.take j) y + (if x.b < y then x.c else 0) ∧ vExp (l.take (j + 1)) y = vExp (l.take j) y ++ (if x.b < y then [] else [x]) := by
  unfold vGone vExp
  rw [take_next hx, List.filter_append, List.filter_append]
  by_cases h : x.b < y
  · have : overV y x = true := by simpa [overV] using h
    simp [h, this, sumC]
  · have : overV y x = false := by simpa [overV] using h
    simp [h, this, sumC]
/-- The loop of Take. -/
def takeGo : List STri → List Int → List STri
  | [], _ => []
  | _ :: _, [] => []
  | x :: l, u :: us => if 0 < x.c - u then ⟨x.a, x.b, x.c - u⟩ :: takeGo l us else takeGo l us
theorem take_eq : ∀ {l : List STri} {us : List Int}, us.length = l.length → (List.zipWith badU l us).any id = false → (List.zipWith lessV l us).filter (fun z => !zeroB z) = takeGo l us
  | [], us, _, _ => by cases us <;> rfl
  | x :: l, [], h, _ => by simp at h
  | x :: l, u :: us, h, hb => by
    simp at hb
    have ih := take_eq (l := l) (us := us) (by simpa using h) (by simpa using hb.2)
    have hb1 : ¬ x.c < u ∧ ¬ u < 0 := by have := hb.1; simp [badU] at this; omega
    simp only [List.zipWith_cons_cons, List.filter_cons, takeGo, ih]
    by_cases h0 : 0 < x.c - u
    · have hz : zeroB (lessV x u) = false := decide_eq_false (show ¬ x.c - u = 0 by omega)
      rw [if_pos h0, hz]; rfl
    · have hz : zeroB (lessV x u) = true := decide_eq_true (show x.c - u = 0 by omega)
      rw [if_neg h0, hz]; rfl
theorem takeGo_snoc : ∀ {l : List STri} {us : List Int} {x : STri} {u : Int}, us.length = l.length → takeGo (l ++ [x]) (us ++ [u]) = takeGo l us ++ (if 0 < x.c - u then [⟨x.a, x.b, x.c - u⟩] else [])
  | [], [], x, u, _ => by simp [takeGo]
  | [], _ :: _, _, _, h => by simp at h
  | _ :: _, [], _, _, h => by simp at h
  | y :: l, v :: us, x, u, h => by
    have ih := takeGo_snoc (l := l) (us := us) (x := x) (u := u) (by simpa using h)
    simp only [List.cons_append, takeGo, ih]
    split <;> simp
end Go.Sl
end
section
/- The walks of the reference's losses: Left, Copy, Expire, Year. -/
namespace Go.Proofs.Ytpigoegjoagbnaa
open Go.RowKit Go.Sl
set_option maxHeartbeats 1000000
set_option maxRecDepth 100000
abbrev PtL (h : Hp) (b : Nat) (l : List STri) : Prop := Pt kReg 46 h b l
theorem refYear_calls (y : Int) (w : World) : Calls Try.prog 49 #[.int .i64 y] w fun e w' => e = .returned (.bool (decide (0 ≤ y ∧ y ≤ 99))) ∧ w = w' := by
  go_enter Try.func49, Try.ntmps49
  go_wp2
  all_goals
    go_ret
    exact ⟨by simp; omega, rfl⟩
theorem refLossLeft_calls (p : Nat) (l : List STri) (h : Hp) (w : World) (hs : h.sub w) (hp : PtL h p l) (hl : l.length ≤ 1000) (hm : ∀ b ∈ l, -100000000000 ≤ b.c ∧ b.c ≤ 100000000000) :
    Calls Try.prog 29 #[.pointer (some ⟨p, 0, none⟩)] w fun e w' => e = .returned (.int .i64 (sumC l)) ∧ Below w.heap.size w w' := by
  obtain ⟨A, ca, hc, sx⟩ := hp.reg hs
  have m1 := sx.small
  have HM := Lib.hid hm
  clear hm
  go_enter Try.func29, Try.ntmps29
  go_wp2
  go_loopw [3, 11] (fun s i wr => ∃ (j : Nat), j ≤ l.length ∧ i = .int .i64 j ∧ s = .int .i64 (sumC (l.take j)) ∧ Below w.heap.size w wr) (fun _ i _ => l.length - (intOf i).toNat)
  case atStart => exact ⟨0, by omega, rfl, rfl, Below.refl _ _⟩
  case round =>
    obtain ⟨j, hj, rfl, rfl, hb⟩ := hrel
    by_cases hlt : j < l.length
    · obtain ⟨x, hx⟩ := some_of_lt hlt
      obtain ⟨b1, o1, rfl, c1, c2, c3⟩ := sx.tri (hs.of_below hb) hx
      have i1 : (0 : Int) ≤ (j : Int) := by omega
      have i2 : (j : Int) < (l.length : Int) := by omega
      have q1 := HM.out x (List.mem_of_getElem? hx.out)
      have q2 := sumC_bd (m := 100000000000) (by omega) (l.take j) fun b hb => HM.out b (List.mem_of_mem_take hb)
      rw [List.length_take] at q2
      obtain ⟨q3, q4⟩ : -1000000000000000 ≤ sumC (l.take j) ∧ sumC (l.take j) ≤ 1000000000000000 := by omega
      clear q2
      have HT : Hid (sumC (l.take (j + 1)) = sumC (l.take j) + x.c) := by unfold Hid; rw [take_next hx, sumC_snoc]
      go_wp2
      go_roundw
      case rel => exact ⟨j + 1, by omega, by go_num, by rw [HT.out], hb.alloc hb.size _⟩
      case measure => simp [intOf]; omega
    · obtain rfl : j = l.length := by omega
      rw [List.take_length]
      go_wp2
      go_ret
      exact ⟨rfl, hb⟩
theorem refLossCopy_calls (b : Nat) (l : List STri) (h : Hp) (w : World) (hs : h.sub w) (hp : PtL h b l) (hl : l.length ≤ 1000) :
    Calls Try.prog 59 #[.pointer (some ⟨b, 0, none⟩)] w fun e w' => ∃ h' b', e = .returned (.pointer (some ⟨b', 0, none⟩)) ∧ PtL h' b' l ∧ Upd Hp.none h' w w' := by
  obtain ⟨A, ca, hc, sx⟩ := hp.reg hs
  go_enter Try.func59, Try.ntmps59
  go_wp2_with (at_builtin; refine wpList_clone (B := none) Try.underlying31 info_vint (by rfl) (by rfl) rfl l.length ca (by rfl) (by rfl) rfl kTri_flat sx hs (by omega) (by omega) ?_; intro C' cap' w1 h1 ho1 hu1)
  go_ret
  exact ⟨_, _, rfl, ⟨_, Hp.put_self, C', cap', rfl, by rw [Hp.put_del (hu1.sub.free (Nat.le_refl _))]; exact ho1⟩, hu1.put⟩
theorem refLossExp_calls (b : Nat) (l : List STri) (y : Int) (h : Hp) (w : World) (hs : h.sub w) (hp : PtL h b l) (g : GoodV l) :
    Calls Try.prog 24 #[.pointer (some ⟨b, 0, none⟩), .int .i64 y] w fun e w' => ∃ h', e = .returned (.int .i64 (vGone l y)) ∧ PtL h' b (vExp l y) ∧ Upd h h' w w' := by
  obtain ⟨cs, hb, A, ca, rfl, ow⟩ := hp
  have hbw := hs b _ hb
  have hlt := hs.lt (b := b) (by simp [hb])
  have hc : w.cell? ⟨b, 0, none⟩ = some (.slice A l.length ca) := by rw [cell_of_row w b 0 _ _ _ hbw]; rfl
  have hf : w.frozen? ⟨b, 0, none⟩ = false := frozen_of_row w b 0 _ _ hbw
  have sx := ow.sl
  have hd := hs.del b
  have m1 := sx.small
  have hlen := g.len
  have hbd : ∀ j, 0 ≤ vGone (l.take j) y ∧ vGone (l.take j) y ≤ 100000000000 := fun j => by
    have h1 := sumC_pos (l := (l.take j).filter (overV y)) fun x hx => g.lo x (List.mem_of_mem_take (List.mem_filter.1 hx).1)
    have h2 := sumC_pos (l := (l.take j).filter fun x => !overV y x) fun x hx => g.lo x (List.mem_of_mem_take (List.mem_filter.1 hx).1)
    have h3 := sumC_filter (l := l.take j) (overV y)
    have h4 := sumC_take_le g.lo j
    have h5 := g.mon
    unfold vGone; omega
  have HB := Lib.hid hbd
  clear hbd
  have E0 := (Env.start w).new (Upd.of_below (Below.refl w.heap.size w))
  simp at E0
  go_enter Try.func24, Try.ntmps24
  go_wp2
  go_loopw [5, 6, 14] (fun gn v i wr => ∃ (j cap m : Nat) (C : Option Addr) (h' : Hp) (os : List STri), j ≤ l.length ∧ i = .int .i64 j ∧ gn = .int .i64 (vGone (l.take j) y) ∧ v = .slice C m cap ∧ Hid (os.length = m) ∧ Hid (os = vExp (l.take j) y) ∧ m ≤ j ∧ Ow kTri h' C cap os ∧ Env w wr [h']) (fun _ _ i _ => l.length - (intOf i).toNat)
  case atStart => exact ⟨0, 0, 0, none, Hp.none, [], by omega, rfl, rfl, rfl, rfl, rfl, by omega, Ow.none _ _, E0⟩
  case round =>
    clear E0
    obtain ⟨j, cap, m, C, h', os, hj, rfl, rfl, rfl, hm, ho, hmj, o, E⟩ := hrel
    by_cases hlt2 : j < l.length
    · obtain ⟨x, hx⟩ := some_of_lt hlt2
      obtain ⟨b1, o1, rfl, c1, c2, c3⟩ := sx.tri (hd.of_below E.low) hx
      have i1 : (0 : Int) ≤ (j : Int) := by omega
      have i2 : (j : Int) < (l.length : Int) := by omega
      obtain ⟨t1, t2⟩ := exp_take y j x hx
      have g0 := HB.out j
      have g1 := HB.out (j + 1)
      rw [t1] at g1
      by_cases hy : x.b < y
      · rw [if_pos hy] at t1 t2 g1
        have HG := Lib.hid t1
        have HN : Hid (os = vExp (l.take (j + 1)) y) := by unfold Hid; rw [t2, ho.out, List.append_nil]
        have td : decide (x.b < y) = true := by simpa using hy
        clear t1 t2 hy ho
        generalize vGone (l.take j) y = G at *
        go_wp2
        go_roundw
        case rel => exact ⟨j + 1, cap, m, C, h', os, by omega, by go_num, by rw [HG.out], rfl, hm, HN, by omega, o, E.alloc' _⟩
        case measure => simp [intOf]; omega
      · rw [if_neg hy] at t1 t2 g1
        have HG : Hid (vGone (l.take (j + 1)) y = vGone (l.take j) y) := by unfold Hid; rw [t1]; omega
        have HN : Hid (os ++ [x] = vExp (l.take (j + 1)) y) := by unfold Hid; rw [t2, ho.out]
        have td : decide (x.b < y) = false := by simpa using hy
        clear t1 t2 hy ho
        generalize vGone (l.take j) y = G at *
        go_wp2_with (at_builtin; refine wpList_eapp 0 x Try.underlying31 info_vint (by repeat (first | (with_reducible exact E) | (with_reducible apply Env.drew) | (with_reducible apply Env.drewN) | (with_reducible apply Env.alloc'))) (by rfl) o m hm.out (by rfl) (by rfl) rfl 1 (by rfl) (by rfl) (heap_new_at (by simp)) (by rfl) (by omega) (by omega) ?_; intro C5 n5 w5 h5 o5 E5)
        simp only [List.set_cons_zero] at E5
        go_roundw
        case rel => exact ⟨j + 1, n5, m + 1, C5, h5, os ++ [x], by omega, by go_num, by rw [HG.out], rfl, by unfold Hid; rw [List.length_append, hm.out]; rfl, HN, by omega, o5, E5⟩
        case measure => simp [intOf]; omega
    · obtain rfl : j = l.length := by omega
      rw [List.take_length] at ho
      rw [List.take_length]
      have hcr := (E.low.cell (p := ⟨b, 0, none⟩) hlt).trans hc
      have hfr := (E.low.frozen (p := ⟨b, 0, none⟩) hlt).trans hf
      have hu := E.made (h := h') (by simp)
      go_wp2
      obtain ⟨UF, hn3⟩ := Upd.field (v := .slice C m cap) 0 hb hs (Hp.none_le _) hu
      go_ret
      exact ⟨_, rfl, ⟨_, Hp.put_self, C, cap, by rw [← ho.out, hm.out]; rfl, by rw [Hp.put_del hn3, ← ho.out]; exact o⟩, UF⟩
end Go.Proofs.Ytpigoegjoagbnaa
end
section
/- The walks of the reference's losses: Take, Add. -/
namespace Go.Proofs.Ytpigoegjoagbnaa
open Go.RowKit Go.Sl
set_option maxHeartbeats 1000000
set_option maxRecDepth 100000
theorem _root_.Go.Sl.takeE_len {l : List STri} {us : List Int} (h : us.length ≠ l.length) : vTakeE l us = 1 := by unfold vTakeE; rw [if_neg fun e => h e.1]
theorem _root_.Go.Sl.takeE_bad2 {l : List STri} {us : List Int} {j : Nat} {x : STri} {u : Int} (hx : l[j]? = some x) (hu : us[j]? = some u) (h : u < 0 ∨ x.c < u) : vTakeE l us = 1 := by
  have hb : (List.zipWith badU l us).any id = true := List.any_eq_true.2 ⟨badU x u, List.mem_of_getElem? (i := j) (by rw [List.getElem?_zipWith, hx, hu]), by simpa [badU] using h⟩
  unfold vTakeE; rw [if_neg fun e => by rw [e.2] at hb; cases hb]
theorem _root_.Go.Sl.takeE_fin {l : List STri} {us : List Int} (hl : us.length = l.length) (h : ∀ (i : Nat) (x : STri) (u : Int), i < l.length → l[i]? = some x → us[i]? = some u → 0 ≤ u ∧ u ≤ x.c) : vTakeE l us = 0 ∧ vTake l us = takeGo l us := by
  have hb : (List.zipWith badU l us).any id = false := by
    rw [List.any_eq_false]
    intro z hz
    obtain ⟨i, hi⟩ := List.mem_iff_getElem?.1 hz
    rw [List.getElem?_zipWith] at hi
    cases hx : l[i]? with
    | none => simp [hx] at hi
    | some x =>
      cases hu : us[i]? with
      | none => simp [hx, hu] at hi
      | some u =>
        simp [hx, hu] at hi
        have := h i x u (List.getElem?_eq_some_iff.1 hx).1 hx hu
        rw [← hi]; simp [badU]; omega
  have hE : vTakeE l us = 0 := by unfold vTakeE; rw [if_pos ⟨hl, hb⟩]
  exact ⟨hE, by unfold vTake; rw [if_pos hE, take_eq hl hb]⟩
/-- What Add and Take of the reference answer. -/
def LAns (b : Nat) (q : Int) (L : List STri) (h : Hp) (w : World) (e : Ending) (w' : World) : Prop := ∃ h', e = .returned (.int .i64 q) ∧ PtL h' b L ∧ Upd h h' w w'
theorem LAns.no {b : Nat} {l L : List STri} {h : Hp} {w w' : World} {q q' : Int} (hq : q' = q) (hL : L = l) (hp : PtL h b l) (hs : h.sub w) (hb : Below w.heap.size w w') :
    LAns b q' L h w (.returned (.int .i64 q)) w' := ⟨h, by rw [hq], by rw [hL]; exact hp, Upd.stay hs hb⟩
theorem refLossTake_calls (b : Nat) (l : List STri) (h : Hp) (w : World) (hs : h.sub w) (hp : PtL h b l) (g : GoodV l) (U : Option Addr) (cu : Nat) (us : List Int) (k : Hp) (ks : k.sub w) (su : Sl kInt k U cu us) (hz : ∀ u ∈ us, I64 u) :
    Calls Try.prog 27 #[.pointer (some ⟨b, 0, none⟩), .slice U us.length cu] w (LAns b (vTakeE l us) (vTake l us) h w) := by
  have HNo : ∀ {W : World}, vTakeE l us = 1 → Below w.heap.size w W → LAns b (vTakeE l us) (vTake l us) h w (.returned (.int .i64 1)) W := fun h1 h3 => .no h1 (by unfold vTake; rw [if_neg (by rw [h1]; decide)]) hp hs h3
  obtain ⟨cs, hb, A, ca, rfl, ow⟩ := hp
  have hbw := hs b _ hb
  have hlt := hs.lt (b := b) (by simp [hb])
  have hc : w.cell? ⟨b, 0, none⟩ = some (.slice A l.length ca) := by rw [cell_of_row w b 0 _ _ _ hbw]; rfl
  have hf : w.frozen? ⟨b, 0, none⟩ = false := frozen_of_row w b 0 _ _ hbw
  have sx := ow.sl
  have hd := hs.del b
  have m1 := sx.small
  have m2 := su.small
  have hlen := g.len
  by_cases hl : us.length = l.length
  case neg =>
    have HE := Lib.hid (takeE_len hl)
    have t1 : ((us.length : Int) != (l.length : Int)) = true := by simp; omega
    have t2 : ((us.length : Int) == (l.length : Int)) = false := by simp; omega
    clear hl
    go_enter Try.func27, Try.ntmps27
    go_wp2
    go_ret
    exact HNo HE.out (Below.refl _ _)
  have t1 : ((us.length : Int) != (l.length : Int)) = false := by simp [hl]
  have t2 : ((us.length : Int) == (l.length : Int)) = true := by simp [hl]
  have HLn := Lib.hid hl
  clear hl
  have E0 := (Env.start w).new (Upd.of_below (Below.refl w.heap.size w))
  simp at E0
  go_enter Try.func27, Try.ntmps27
  go_wp2
  clear t1 t2
  go_loopw [5, 21] (fun v i wr => ∃ (j cap m : Nat) (C : Option Addr) (h' : Hp) (os : List STri), j ≤ l.length ∧ i = .int .i64 j ∧ v = .slice C m cap ∧ Hid (os.length = m) ∧ Hid (os = takeGo (l.take j) (us.take j)) ∧ Hid (∀ (i : Nat) (x : STri) (u : Int), i < j → l[i]? = some x → us[i]? = some u → 0 ≤ u ∧ u ≤ x.c) ∧ m ≤ j ∧ Ow kTri h' C cap os ∧ Env w wr [h']) (fun _ i _ => l.length - (intOf i).toNat)
  case atStart => exact ⟨0, 0, 0, none, Hp.none, [], by omega, rfl, rfl, rfl, rfl, fun i x u h => absurd h (by omega), by omega, Ow.none _ _, E0⟩
  case round =>
    clear E0
    obtain ⟨j, cap, m, C, h', os, hj, rfl, rfl, hm, ho, hub, hmj, o, E⟩ := hrel
    by_cases hlt2 : j < l.length
    · obtain ⟨x, hx⟩ := some_of_lt hlt2
      obtain ⟨u, hu⟩ := some_of_lt (show j < us.length by rw [HLn.out]; exact hlt2)
      obtain ⟨b1, o1, rfl, c1, c2, c3⟩ := sx.tri (hd.of_below E.low) hx
      obtain ⟨b2, o2, rfl, d1⟩ := su.int (ks.of_below E.low) hu
      have i1 : (0 : Int) ≤ (j : Int) := by omega
      have i2 : (j : Int) < (l.length : Int) := by omega
      have i3 : (j : Int) < (us.length : Int) := by have := HLn.out; omega
      have hxm := List.mem_of_getElem? hx.out
      have hxc := g.lo x hxm
      have hxs := le_sumC g.lo hxm
      have hmon := g.mon
      have huz := hz u (List.mem_of_getElem? hu.out)
      go_upto_region 7 with fail
      replace E := E.alloc (.cells #[.int .i64 x.a, .int .i64 x.b, .int .i64 x.c] 34)
      simp at E
      obtain ⟨W, hW⟩ : ∃ W : World, W = wr.alloc (.cells #[.int .i64 x.a, .int .i64 x.b, .int .i64 x.c] 34) := ⟨_, rfl⟩
      rw [← hW] at E
      rw [← hW]
      clear hW
      have q0 := E.cell 1 rfl 0 rfl
      have q1 := E.cell 1 rfl 1 rfl
      have q2 := E.cell 1 rfl 2 rfl
      have d1W : W.cell? ⟨b2, o2 + j, none⟩ = some (.int .i64 u) := by
        obtain ⟨b', o', e, h1⟩ := su.int (ks.of_below E.low) hu
        cases e; exact h1
      generalize wr.heap.size = bw at *
      clear c1 c2 c3 d1
      by_cases h1 : u < 0
      · have HE := Lib.hid (takeE_bad2 hx.out hu.out (.inl h1))
        have t1 : decide (u < 0) = true := by simpa using h1
        clear h1
        go_quiet (fail)
        have E6 := E.drewN nq
        go_wp2
        go_ret
        exact HNo HE.out E6.low
      · by_cases h2 : x.c < u
        · have HE := Lib.hid (takeE_bad2 hx.out hu.out (.inr h2))
          have t1 : decide (u < 0) = false := by simpa using h1
          have t2 : decide (x.c < u) = true := by simpa using h2
          clear h1 h2
          go_quiet (fail)
          have E6 := E.drewN nq
          go_wp2
          go_ret
          exact HNo HE.out E6.low
        · have t1 : decide (u < 0) = false := by simpa using h1
          have t2 : decide (x.c < u) = false := by simpa using h2
          have HUB : Hid (∀ (i : Nat) (x : STri) (u : Int), i < j + 1 → l[i]? = some x → us[i]? = some u → 0 ≤ u ∧ u ≤ x.c) := fun i x' u' hi e1 e2 => by
            by_cases h3 : i = j
            · subst h3; rw [hx.out] at e1; rw [hu.out] at e2; cases e1; cases e2; omega
            · exact hub.out i x' u' (by omega) e1 e2
          have HT : takeGo (l.take (j + 1)) (us.take (j + 1)) = takeGo (l.take j) (us.take j) ++ (if 0 < x.c - u then [⟨x.a, x.b, x.c - u⟩] else []) := by
            rw [take_next hx, take_next hu]
            exact takeGo_snoc (by rw [List.length_take, List.length_take, HLn.out])
          have hr : 0 ≤ x.c - u ∧ x.c - u ≤ 100000000000 := by omega
          have hwr : IntKind.i64.wrap (x.c - u) = x.c - u := by rw [IntKind.wrap_i64]; omega
          clear h1 h2 hub
          go_quiet (fail)
          replace E := E.drewN nq
          obtain ⟨V, hV⟩ : ∃ V, V = W.drewN nq := ⟨_, rfl⟩
          rw [← hV] at E
          rw [← hV]
          clear hV q0 q1 q2 d1W
          have d1V : V.cell? ⟨b2, o2 + j, none⟩ = some (.int .i64 u) := by
            obtain ⟨b', o', e, h1⟩ := su.int (ks.of_below E.low) hu
            cases e; exact h1
          have q0 := E.cell 1 rfl 0 rfl
          have q1 := E.cell 1 rfl 1 rfl
          have q2 := E.cell 1 rfl 2 rfl
          have qf := fun k => E.free 1 rfl k
          have RS : ∀ X, Env w X [h', Hp.box bw [.int .i64 x.a, .int .i64 x.b, .int .i64 x.c] 34] → Env w (X.setCell ⟨bw, 2, none⟩ (.int .i64 (x.c - u))) [h', Hp.box bw [.int .i64 x.a, .int .i64 x.b, .int .i64 (x.c - u)] 34] := fun X EX => EX.cellset 1 rfl 2 _
          go_upto_region 9 with fail
          refine wp_region_still_tail 8 (by kernel_rfl) (by kernel_rfl) ?_
          simp only [List.take_succ_cons, List.take_zero, List.drop_succ_cons, List.drop_zero]
          repeat still_step
          refine wpStill_nil ?_
          change wpList _ _ _ _ _ V.drew
          go_upto_region 10 with fail
          have E4 := (RS _ E).drew
          obtain ⟨X, hX⟩ : ∃ X, X = (V.setCell ⟨bw, 2, none⟩ (.int .i64 (x.c - u))).drew := ⟨_, rfl⟩
          rw [← hX] at E4
          rw [← hX]
          clear hX q0 q1 q2 qf d1V E RS
          have q0 := E4.cell 1 rfl 0 rfl
          have q1 := E4.cell 1 rfl 1 rfl
          have q2 := E4.cell 1 rfl 2 rfl
          by_cases h3 : 0 < x.c - u
          · have t3 : decide (0 < x.c - u) = true := by simpa using h3
            have HN : Hid (os ++ [⟨x.a, x.b, x.c - u⟩] = takeGo (l.take (j + 1)) (us.take (j + 1))) := by unfold Hid; rw [HT, if_pos h3, ho.out]
            clear h3 HT ho
            generalize x.c - u = rc at *
            go_wp2_with (at_builtin; refine wpList_eapp 0 ⟨x.a, x.b, rc⟩ Try.underlying31 info_vint (by repeat (first | (with_reducible exact E4) | (with_reducible apply Env.drew) | (with_reducible apply Env.drewN) | (with_reducible apply Env.alloc'))) (by rfl) o m hm.out (by rfl) (by rfl) rfl 1 (by rfl) (by rfl) (heap_new_at (by simp)) (by rfl) (by omega) (by omega) ?_; intro C5 n5 w5 h5 o5 E5)
            have E6 := E5.drop 1
            simp at E6
            go_roundw
            case rel => exact ⟨j + 1, n5, m + 1, C5, h5, os ++ [⟨x.a, x.b, rc⟩], by omega, by go_num, rfl, by unfold Hid; rw [List.length_append, hm.out]; rfl, HN, HUB, by omega, o5, E6⟩
            case measure => simp [intOf]; omega
          · have t3 : decide (0 < x.c - u) = false := by simpa using h3
            have HN : Hid (os = takeGo (l.take (j + 1)) (us.take (j + 1))) := by unfold Hid; rw [HT, if_neg h3, ho.out, List.append_nil]
            have E6 := E4.drop 1
            simp at E6
            clear h3 HT ho
            generalize x.c - u = rc at *
            go_wp2
            go_roundw
            case rel => exact ⟨j + 1, cap, m, C, h', os, by omega, by go_num, rfl, hm, HN, HUB, by omega, o, E6⟩
            case measure => simp [intOf]; omega
    · obtain rfl : j = l.length := by omega
      rw [List.take_length, List.take_of_length_le (Nat.le_of_eq HLn.out)] at ho
      obtain ⟨hE, hT⟩ := takeE_fin HLn.out hub.out
      have HE := Lib.hid hE
      have HT : Hid (vTake l us = os) := by unfold Hid; rw [hT, ho.out]
      clear hE hT hub ho
      have hcr := (E.low.cell (p := ⟨b, 0, none⟩) hlt).trans hc
      have hfr := (E.low.frozen (p := ⟨b, 0, none⟩) hlt).trans hf
      have hu := E.made (h := h') (by simp)
      go_wp2
      obtain ⟨UF, hn3⟩ := Upd.field (v := .slice C m cap) 0 hb hs (Hp.none_le _) hu
      go_ret
      exact ⟨_, by rw [HE.out]; rfl, ⟨_, Hp.put_self, C, cap, by rw [HT.out, hm.out]; rfl, by rw [Hp.put_del hn3, HT.out]; exact o⟩, UF⟩
end Go.Proofs.Ytpigoegjoagbnaa
end
