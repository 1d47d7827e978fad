/- Walks and plain facts that the laws of this seat share, part 5: contracts of functions, each said at its theorem. -/
import Derived.Test.YtpigoegjoagbnaaPk4
import Derived.Deep.Slices
import Derived.ChangeShapes
import Derived.ChangeArms
import Derived.ChangeSlices
import Derived.WalkKit
import Derived.Laws.StructEq
import Derived.Deep.RegionHeld3
section
/- A slice of structs of whole numbers, as an argument's reading gives it. No program is named here. -/
namespace Go.Sl
open Go Go.RowKit Go.Deep Go.ChangeShapes
/-- n whole numbers, by their places. -/
def kFun (n : Nat) (pos : 0 < n) : Kd (Nat → Int) := Kd.flat n (fun x => (List.range n).map fun i => .int .i64 (x i)) pos (by simp) (fun x u h => by
  obtain ⟨i, _, rfl⟩ := List.mem_map.1 h; rfl)
theorem Sl.fn {n : Nat} {pos : 0 < n} {h : Hp} {A : Option Addr} {cap : Nat} {xs : List (Nat → Int)} {w : World} (s : Sl (kFun n pos) h A cap xs) (hs : h.sub w) {i : Nat} {x : Nat → Int} (hx : Hid (xs[i]? = some x)) :
    ∃ b off, A = some ⟨b, off, .none⟩ ∧ ∀ j, j < n → w.cell? ⟨b, off + i * n + j, .none⟩ = some (.int .i64 (x j)) := by
  obtain ⟨b, off, cs, e, hK, _, hc⟩ := s.at hs hx.out
  have hK' : cs = (List.range n).map fun i => .int .i64 (x i) := hK
  subst hK'
  exact ⟨b, off, e, fun j hj => hc j _ (by simp [hj])⟩
theorem Sl.fn3 {pos : 0 < 3} {h : Hp} {A : Option Addr} {cap : Nat} {xs : List (Nat → Int)} {w : World} (s : Sl (kFun 3 pos) h A cap xs) (hs : h.sub w) {i : Nat} {x : Nat → Int} (hx : Hid (xs[i]? = some x)) :
    ∃ b off, A = some ⟨b, off, .none⟩ ∧ w.cell? ⟨b, off + i * 3, .none⟩ = some (.int .i64 (x 0)) ∧ w.cell? ⟨b, off + i * 3 + 1, .none⟩ = some (.int .i64 (x 1)) ∧ w.cell? ⟨b, off + i * 3 + 2, .none⟩ = some (.int .i64 (x 2)) := by
  obtain ⟨b, off, e, hc⟩ := s.fn hs hx
  exact ⟨b, off, e, hc 0 (by omega), hc 1 (by omega), hc 2 (by omega)⟩
theorem Sl.fn4 {pos : 0 < 4} {h : Hp} {A : Option Addr} {cap : Nat} {xs : List (Nat → Int)} {w : World} (s : Sl (kFun 4 pos) h A cap xs) (hs : h.sub w) {i : Nat} {x : Nat → Int} (hx : Hid (xs[i]? = some x)) :
    ∃ b off, A = some ⟨b, off, .none⟩ ∧ w.cell? ⟨b, off + i * 4, .none⟩ = some (.int .i64 (x 0)) ∧ w.cell? ⟨b, off + i * 4 + 1, .none⟩ = some (.int .i64 (x 1)) ∧ w.cell? ⟨b, off + i * 4 + 2, .none⟩ = some (.int .i64 (x 2)) ∧ w.cell? ⟨b, off + i * 4 + 3, .none⟩ = some (.int .i64 (x 3)) := by
  obtain ⟨b, off, e, hc⟩ := s.fn hs hx
  exact ⟨b, off, e, hc 0 (by omega), hc 1 (by omega), hc 2 (by omega), hc 3 (by omega)⟩
theorem Sl.fn6 {pos : 0 < 6} {h : Hp} {A : Option Addr} {cap : Nat} {xs : List (Nat → Int)} {w : World} (s : Sl (kFun 6 pos) h A cap xs) (hs : h.sub w) {i : Nat} {x : Nat → Int} (hx : Hid (xs[i]? = some x)) :
    ∃ b off, A = some ⟨b, off, .none⟩ ∧ w.cell? ⟨b, off + i * 6, .none⟩ = some (.int .i64 (x 0)) ∧ w.cell? ⟨b, off + i * 6 + 1, .none⟩ = some (.int .i64 (x 1)) ∧ w.cell? ⟨b, off + i * 6 + 2, .none⟩ = some (.int .i64 (x 2)) ∧ w.cell? ⟨b, off + i * 6 + 3, .none⟩ = some (.int .i64 (x 3)) ∧ w.cell? ⟨b, off + i * 6 + 4, .none⟩ = some (.int .i64 (x 4)) ∧ w.cell? ⟨b, off + i * 6 + 5, .none⟩ = some (.int .i64 (x 5)) := by
  obtain ⟨b, off, e, hc⟩ := s.fn hs hx
  exact ⟨b, off, e, hc 0 (by omega), hc 1 (by omega), hc 2 (by omega), hc 3 (by omega), hc 4 (by omega), hc 5 (by omega)⟩
theorem open_acts {H : Type} {enc : TypeId × Value → H} {P : Program} {w : World} {held : Bool} {t e : TypeId} {fs : Array Field} {fuel : Nat} {cs : List Value} {x : DataW H × List MemPlace} (n : Nat) (pos : 0 < n)
    (ht : P.underlying t = some (.slice e)) (he : P.underlying e = some (.struct fs)) (hce : P.cellsOf e = n)
    (hf : ∀ i, i < n → ∃ f, fs[i]? = some f ∧ f.offset = i ∧ P.underlying f.type = some (.int .i64) ∧ P.cellsOf f.type = 1)
    (h : DataW.trod enc P w 0 (fun _ => true) held fuel t cs = some x) :
    ∃ A cap zs, cs = [.slice A (List.length zs) cap] ∧ Sl (kFun n pos) (Hp.all w) A cap zs ∧ ∀ z ∈ zs, ∀ j, j < n → I64 (z j) := by
  rcases open_slice ht h with ⟨rfl, _⟩ | ⟨a, len, cap, m, k, D, Pl, rfl, _, hl, hmx, hm, _, hel⟩
  · exact ⟨none, 0, [], rfl, Sl.none _ _, by simp⟩
  · simp at hm
    subst hm
    have each : ∀ i, i < len → ∃ z : Nat → Int, ∀ j, j < n → w.cell? (a.add (i * n + j)) = some (.int .i64 (z j)) ∧ I64 (z j) := by
      intro i hi
      obtain ⟨cs', h1, h2⟩ := hel i (by omega)
      rw [hce] at h1
      obtain ⟨xs, k', _, _, hcl, hxl, hfl⟩ := DataW.trod_struct he h2
      obtain ⟨_, hlen, hcell⟩ := World.cells?_some h1
      refine choose_lt (α := Int) (n := n) (p := fun j q => w.cell? (a.add (i * n + j)) = some (.int .i64 q) ∧ I64 q) fun j hj => ?_
      obtain ⟨f, f1, f2, f3, f4⟩ := hf j hj
      have ht := hfl j f f1
      rw [f2, f4] at ht
      have hjl : j < cs'.length := by omega
      have hd : (cs'.drop j).take 1 = [cs'[j]] := by rw [List.drop_eq_getElem_cons hjl]; rfl
      rw [hd] at ht
      cases hx : xs[j]? with
      | none => rw [hx] at ht; rename_i hxs; have h3 := (Array.getElem?_eq_some_iff.1 f1).1; rw [List.getElem?_eq_none_iff] at hx; omega
      | some y =>
        rw [hx] at ht
        obtain ⟨q, e1, _, e3⟩ := DataW.trod_int f3 ht
        refine ⟨q, ?_, I64.of_wf e3⟩
        have e4 : cs'[j] = .int .i64 q := by simpa using e1
        have e5 := hcell j (by omega)
        rw [List.getElem?_eq_getElem hjl, e4, add_add] at e5
        exact e5
    obtain ⟨F, hF⟩ := choose_lt (α := Nat → Int) each
    refine ⟨some a, m, (List.range len).map F, by simp, ⟨by simpa using hl, hmx, (fun e => (nomatch e)), fun i z hz => ?_⟩, fun z hz j hj => ?_⟩
    · rw [List.getElem?_map] at hz
      by_cases hi : i < len
      · rw [List.getElem?_range hi] at hz
        simp at hz; subst hz
        have hc := fun j hj => (hF i hi j hj).1
        obtain ⟨b, off, sp⟩ := a
        have h0 := (hF 0 (by omega) 0 pos).1
        rw [show 0 * n + 0 = 0 by omega, show ∀ a : Addr, a.add 0 = a from fun a => if_pos rfl] at h0
        have hsp : sp = .none := by
          unfold World.cell? at h0
          split at h0
          · cases sp with
            | none => rfl
            | some s => simp at h0
          · cases h0
        subst hsp
        have hb : ∃ cur E fr, w.heap[b]? = some (.cells cur E fr) ∧ ∀ j, j < n → cur[off + i * n + j]? = some (.int .i64 (F i j)) := by
          have h1 := h0
          unfold World.cell? at h1
          split at h1
          · rename_i cur E fr hb
            refine ⟨cur, E, fr, hb, fun j hj => ?_⟩
            have h2 := hc j hj
            rw [add_mk, cell_of_row w b _ cur E fr hb] at h2
            rw [Nat.add_assoc]; exact h2
          · cases h1
        obtain ⟨cur, E, fr, hb, hcur⟩ := hb
        refine ⟨b, off, cur, E, fr, _, rfl, hb, rfl, fun j u hu => ?_⟩
        rw [List.getElem?_map] at hu
        by_cases hj : j < n
        · rw [List.getElem?_range hj] at hu
          simp at hu; subst hu
          exact hcur j hj
        · rw [List.getElem?_eq_none (by simp; omega)] at hu; cases hu
      · rw [List.getElem?_eq_none (by simp; omega)] at hz; cases hz
    · obtain ⟨i, hi, rfl⟩ := List.mem_map.1 hz
      exact (hF i (List.mem_range.1 hi) j hj).2
end Go.Sl
end
section
/- A slice of structs of four whole numbers and a slice of whole numbers, as an argument's reading gives it. No program is named here. -/
namespace Go.Sl
open Go Go.RowKit Go.Deep Go.ChangeShapes
/-- Four whole numbers, by their places, and a list. -/
structure SVA where
  f : Nat → Int
  us : List Int
def kVA : Kd SVA where
  size := 5
  K h x cs := ∃ U cu, cs = [.int .i64 (x.f 0), .int .i64 (x.f 1), .int .i64 (x.f 2), .int .i64 (x.f 3), .slice U x.us.length cu] ∧ Sl kInt h U cu x.us
  pos := by decide
  len := by rintro h x cs ⟨U, cu, rfl, _⟩; rfl
  one := by
    rintro h x cs ⟨U, cu, rfl, _⟩ u hu
    simp at hu; rcases hu with rfl | rfl | rfl | rfl | rfl <;> rfl
  mono := by rintro h h' x cs ⟨U, cu, e, s⟩ l; exact ⟨U, cu, e, s.mono l⟩
theorem Sl.va {h : Hp} {A : Option Addr} {cap : Nat} {xs : List SVA} {w : World} (s : Sl kVA h A cap xs) (hs : h.sub w) {i : Nat} {x : SVA} (hx : Hid (xs[i]? = some x)) :
    ∃ b off U cu, A = some ⟨b, off, .none⟩ ∧ Sl kInt h U cu x.us ∧ w.cell? ⟨b, off + i * 5, .none⟩ = some (.int .i64 (x.f 0)) ∧ w.cell? ⟨b, off + i * 5 + 1, .none⟩ = some (.int .i64 (x.f 1)) ∧ w.cell? ⟨b, off + i * 5 + 2, .none⟩ = some (.int .i64 (x.f 2)) ∧ w.cell? ⟨b, off + i * 5 + 3, .none⟩ = some (.int .i64 (x.f 3)) ∧ w.cell? ⟨b, off + i * 5 + 4, .none⟩ = some (.slice U x.us.length cu) := by
  obtain ⟨b, off, cs, e, ⟨U, cu, rfl, su⟩, _, hc⟩ := s.at hs hx.out
  exact ⟨b, off, U, cu, e, su, by simpa [kVA] using hc 0 _ rfl, hc 1 _ rfl, hc 2 _ rfl, hc 3 _ rfl, hc 4 _ rfl⟩
theorem open_vacts {H : Type} {enc : TypeId × Value → H} {P : Program} {w : World} {held : Bool} {t e ti te : TypeId} {fs : Array Field} {fuel : Nat} {cs : List Value} {x : DataW H × List MemPlace}
    (ht : P.underlying t = some (.slice e)) (he : P.underlying e = some (.struct fs)) (hce : P.cellsOf e = 5)
    (hf : ∀ i, i < 4 → ∃ f, fs[i]? = some f ∧ f.offset = i ∧ P.underlying f.type = some (.int .i64) ∧ P.cellsOf f.type = 1)
    (h4 : ∃ f, fs[4]? = some f ∧ f.offset = 4 ∧ f.type = ti ∧ P.cellsOf ti = 1) (hti : P.underlying ti = some (.slice te)) (hte : P.underlying te = some (.int .i64)) (hcte : P.cellsOf te = 1)
    (h : DataW.trod enc P w 0 (fun _ => true) held fuel t cs = some x) :
    ∃ A cap zs, cs = [.slice A (List.length zs) cap] ∧ Sl kVA (Hp.all w) A cap zs ∧ ∀ z ∈ zs, (∀ j, j < 4 → I64 (z.f j)) ∧ ∀ u ∈ z.us, I64 u := by
  rcases open_slice ht h with ⟨rfl, _⟩ | ⟨a, len, cap, m, k, D, Pl, rfl, _, hl, hmx, hm, _, hel⟩
  · exact ⟨none, 0, [], rfl, Sl.none _ _, by simp⟩
  · have hm' : m = cap := by simpa using hm
    subst hm'
    have each : ∀ i, i < len → ∃ z : SVA, ∃ cs', (∀ j u, cs'[j]? = some u → w.cell? (a.add (i * 5 + j)) = some u) ∧ kVA.K (Hp.all w) z cs' ∧ (∀ j, j < 4 → I64 (z.f j)) ∧ ∀ u ∈ z.us, I64 u := by
      intro i hi
      obtain ⟨cs', h1, h2⟩ := hel i (by omega)
      rw [hce] at h1
      obtain ⟨xs, k', _, _, hcl, hxl, hfl⟩ := DataW.trod_struct he h2
      obtain ⟨_, hlen, hcell⟩ := World.cells?_some h1
      have hd : ∀ j (hj : j < cs'.length), (cs'.drop j).take 1 = [cs'[j]] := fun j hj => by rw [List.drop_eq_getElem_cons hj]; rfl
      have hnum : ∀ j, j < 4 → ∃ q : Int, cs'[j]? = some (.int .i64 q) ∧ I64 q := by
        intro j hj
        obtain ⟨f, f1, f2, f3, f4⟩ := hf j hj
        have ht := hfl j f f1
        rw [f2, f4] at ht
        have hjl : j < cs'.length := by omega
        rw [hd j hjl] at ht
        cases hx : xs[j]? with
        | none => rw [hx] at ht; have h3 := (Array.getElem?_eq_some_iff.1 f1).1; rw [List.getElem?_eq_none_iff] at hx; omega
        | some y =>
          rw [hx] at ht
          obtain ⟨q, e1, _, e3⟩ := DataW.trod_int f3 ht
          exact ⟨q, by rw [List.getElem?_eq_getElem hjl]; simpa using e1, I64.of_wf e3⟩
      obtain ⟨q0, n0, w0⟩ := hnum 0 (by omega)
      obtain ⟨q1, n1, w1⟩ := hnum 1 (by omega)
      obtain ⟨q2, n2, w2⟩ := hnum 2 (by omega)
      obtain ⟨q3, n3, w3⟩ := hnum 3 (by omega)
      obtain ⟨f, f1, f2, f3, f4⟩ := h4
      have ht4 := hfl 4 f f1
      have hjl : 4 < cs'.length := by omega
      rw [f2, f3, f4, hd 4 hjl] at ht4
      have hin : ∃ U cu us, cs'[4]? = some (.slice U (List.length us) cu) ∧ Sl kInt (Hp.all w) U cu us ∧ ∀ u ∈ us, I64 u := by
        cases hx : xs[4]? with
        | none => rw [hx] at ht4; have h3 := (Array.getElem?_eq_some_iff.1 f1).1; rw [List.getElem?_eq_none_iff] at hx; omega
        | some y =>
          rw [hx] at ht4
          rcases open_ints hti hte hcte ht4 with ⟨hcs, _⟩ | ⟨x', l', c', zs, hcs, _, hl', hm2, hz, _, hcell', hwz⟩
          · refine ⟨none, 0, [], ?_, Sl.none _ _, by simp⟩
            rw [List.getElem?_eq_getElem hjl]; simpa using hcs
          · have hz' : zs.length = c' := by simpa using hz
            refine ⟨some x', c', zs.take l', ?_, Sl.of_ints hl' hm2 hz' hcell', I64.of_take hwz⟩
            rw [List.getElem?_eq_getElem hjl, List.length_take, hz', Nat.min_eq_left hl']; simpa using hcs
      obtain ⟨U, cu, us, n4, su, wu⟩ := hin
      refine ⟨⟨fun j => if j = 0 then q0 else if j = 1 then q1 else if j = 2 then q2 else q3, us⟩, cs', fun j u hu => ?_, ⟨U, cu, ?_, su⟩, fun j hj => ?_, wu⟩
      · have hjl : j < cs'.length := (List.getElem?_eq_some_iff.1 hu).1
        have e5 := hcell j (by omega)
        rw [add_add, hu] at e5
        exact e5
      · have hl5 : cs'.length = 5 := by omega
        refine List.ext_getElem? fun j => ?_
        match j with
        | 0 => exact n0
        | 1 => exact n1
        | 2 => exact n2
        | 3 => exact n3
        | 4 => exact n4
        | j + 5 => rw [List.getElem?_eq_none (by omega)]; rfl
      · match j, hj with
        | 0, _ => exact w0
        | 1, _ => exact w1
        | 2, _ => exact w2
        | 3, _ => exact w3
        | j + 4, hj => exact absurd hj (by omega)
    have : Inhabited SVA := ⟨⟨fun _ => 0, []⟩⟩
    obtain ⟨F, hF⟩ := choose_lt (α := SVA) each
    refine ⟨some a, m, (List.range len).map F, by simp, ⟨by simpa using hl, hmx, (fun e => (nomatch e)), fun i z hz => ?_⟩, fun z hz => ?_⟩
    · rw [List.getElem?_map] at hz
      by_cases hi : i < len
      · rw [List.getElem?_range hi] at hz
        simp at hz; subst hz
        obtain ⟨cs', hc, hK, _, _⟩ := hF i hi
        obtain ⟨cs0, hc0, hK0, _, _⟩ := hF 0 (by omega)
        obtain ⟨b, off, sp⟩ := a
        obtain ⟨_, _, e0, _⟩ := hK0
        have h0 := hc0 0 _ (by rw [e0]; rfl)
        rw [show 0 * 5 + 0 = 0 by omega, show ∀ a : Addr, a.add 0 = a from fun a => if_pos rfl] at h0
        have hsp : sp = .none := by
          unfold World.cell? at h0
          split at h0
          · cases sp with
            | none => rfl
            | some s => simp at h0
          · cases h0
        subst hsp
        have hb : ∃ cur E fr, w.heap[b]? = some (.cells cur E fr) := by
          have h1 := h0
          unfold World.cell? at h1
          split at h1
          · rename_i cur E fr hb; exact ⟨cur, E, fr, hb⟩
          · cases h1
        obtain ⟨cur, E, fr, hb⟩ := hb
        refine ⟨b, off, cur, E, fr, cs', rfl, hb, hK, fun j u hu => ?_⟩
        have h2 := hc j u hu
        rw [add_mk, cell_of_row w b _ cur E fr hb] at h2
        show cur[off + i * 5 + j]? = some u
        rw [Nat.add_assoc]; exact h2
      · rw [List.getElem?_eq_none (by simp; omega)] at hz; cases hz
    · obtain ⟨i, hi, rfl⟩ := List.mem_map.1 hz
      obtain ⟨_, _, _, h1, h2⟩ := hF i (List.mem_range.1 hi)
      exact ⟨h1, h2⟩
end Go.Sl
end
section
/- '==' and '!=' of structs as one Bool. No program is named here. -/
namespace Go.Sl
open Go Go.RowKit
section
variable {P : Program} {d : Nat} {xs ys : Array Value} {f : Field} {fs : List Field} {a b : Value} {r s : Bool} {w : World}

theorem eqFields_nil : (Op.eqFields d xs ys []).run P w = .ok true w := by simp [Op.eqFields]
theorem eqFields_cons (hn : (f.name == "_") = false) (ha : (Go.part f.type xs f.offset).run P w = .ok a w) (hb : (Go.part f.type ys f.offset).run P w = .ok b w)
    (he : (Op.equalIn d f.type a b).run P w = .ok r w) (hr : (Op.eqFields d xs ys fs).run P w = .ok s w) : (Op.eqFields d xs ys (f :: fs)).run P w = .ok (r && s) w := by
  have hn' : f.name ≠ "_" := by simpa using hn
  rw [Op.eqFields]
  simp only [if_pos hn', Sem.run_bind, ha, hb, he, Result.andThen_ok]
  cases r
  · simp
  · simpa using hr
theorem equalIn_struct {t : TypeId} {fs : Array Field} (hu : P.underlying t = some (.struct fs)) (hp : P.stoodInHeld t = false)
    (h : (Op.eqFields d xs ys fs.toList).run P w = .ok r w) : (Op.equalIn (d + 1) t (.agg xs) (.agg ys)).run P w = .ok r w := by
  have hf : P.fieldsOf t = fs := by simp [Program.fieldsOf, hu]
  rw [run_equalIn_struct (P := P) w d t xs ys (by rw [hf]; exact hu) hp, hf]
  exact h
theorem neq_struct {t : TypeId} (h : (Op.equalIn 10000 t (.agg xs) (.agg ys)).run P w = .ok r w) : (binOp .neq t (.agg xs) (.agg ys)).run P w = .ok (.bool (!r)) w := by
  rw [run_neq_struct, h]; rfl
theorem eql_struct {t : TypeId} (h : (Op.equalIn 10000 t (.agg xs) (.agg ys)).run P w = .ok r w) : (binOp .eql t (.agg xs) (.agg ys)).run P w = .ok (.bool r) w := by
  rw [run_eql_struct, h]; rfl
end
end Go.Sl
end
section
/- '==' and '!=' of api.Vintage. -/
namespace Go.Proofs.Ytpigoegjoagbnaa
open Go.RowKit Go.Sl
set_option maxHeartbeats 1000000
set_option maxRecDepth 100000
theorem equalIn_vint (d : Nat) (x0 y0 : Int) (x1 y1 : Int) (x2 y2 : Int) (w : World) : (Op.equalIn (d + 2) 34 (.agg #[.int .i64 x0, .int .i64 x1, .int .i64 x2]) (.agg #[.int .i64 y0, .int .i64 y1, .int .i64 y2])).run Try.prog w = .ok (x0 == y0 && (x1 == y1 && (x2 == y2 && (true)))) w := by
  refine equalIn_struct (d := d + 1) Try.underlying34 (by kernel_rfl) ?_
  refine eqFields_cons (by rfl) (by go_simp; rfl) (by go_simp; rfl) (by go_simp) ?_
  refine eqFields_cons (by rfl) (by go_simp; rfl) (by go_simp; rfl) (by go_simp) ?_
  refine eqFields_cons (by rfl) (by go_simp; rfl) (by go_simp; rfl) (by go_simp) ?_
  exact eqFields_nil
theorem eqc_vint (x y : STri) : (x.a == y.a && (x.b == y.b && (x.c == y.c && (true)))) = decide (x = y) := by
  rw [Bool.eq_iff_iff]; cases x; cases y; simp
theorem ne_vint (x y : STri) (w : World) : (binOp .neq 34 (.agg #[.int .i64 x.a, .int .i64 x.b, .int .i64 x.c]) (.agg #[.int .i64 y.a, .int .i64 y.b, .int .i64 y.c])).run Try.prog w = .ok (.bool (neB x y)) w := by
  have h := equalIn_vint 9998 x.a y.a x.b y.b x.c y.c w
  simp only [Nat.reduceAdd] at h
  rw [neq_struct h, eqc_vint]; rfl
theorem eq_vint (x y : STri) (w : World) : (binOp .eql 34 (.agg #[.int .i64 x.a, .int .i64 x.b, .int .i64 x.c]) (.agg #[.int .i64 y.a, .int .i64 y.b, .int .i64 y.c])).run Try.prog w = .ok (.bool (eqB x y)) w := by
  have h := equalIn_vint 9998 x.a y.a x.b y.b x.c y.c w
  simp only [Nat.reduceAdd] at h
  rw [eql_struct h, eqc_vint]; rfl
end Go.Proofs.Ytpigoegjoagbnaa
end
section
/- keep.Same over api.Vintage: the same things? -/
namespace Go.Proofs.Ytpigoegjoagbnaa
open Go.RowKit Go.Sl
set_option maxHeartbeats 1000000
set_option maxRecDepth 100000
theorem same_vint (A B : Option Addr) (ca cb : Nat) (xs ys : List STri) (h k : Hp) (w : World) (hs : h.sub w) (ks : k.sub w) (sx : Sl kTri h A ca xs) (sy : Sl kTri k B cb ys) :
    Calls Try.prog 17 #[.slice A xs.length ca, .slice B ys.length cb] w fun e w' => e = .returned (.bool (eqB xs ys)) ∧ Below w.heap.size w w' := by
  have m1 := sx.small
  have m2 := sy.small
  by_cases hl : xs.length = ys.length
  · have hl1 : ((xs.length : Int) == (ys.length : Int)) = true := by simp [hl]
    have hl2 : ((xs.length : Int) != (ys.length : Int)) = false := by simp [hl]
    have hL := Lib.hid hl
    clear hl
    go_enter Try.func17, Try.ntmps17
    go_wp2
    clear hl1 hl2
    go_loopw [5] (fun i wr => ∃ j : Nat, j ≤ xs.length ∧ i = .int .i64 j ∧ Hid (xs.take j = ys.take j) ∧ Below w.heap.size w wr) (fun i _ => xs.length - (intOf i).toNat)
    case atStart => exact ⟨0, by omega, rfl, rfl, Below.refl _ _⟩
    case round =>
      obtain ⟨j, hj, rfl, he, hb⟩ := hrel
      by_cases hlt : j < xs.length
      · have hlt2 : j < ys.length := by have := hL.out; omega
        obtain ⟨x, hx⟩ := some_of_lt hlt
        obtain ⟨y, hy⟩ := some_of_lt hlt2
        obtain ⟨b1, o1, rfl, c1, c2, c3⟩ := sx.tri (hs.of_below hb) hx
        obtain ⟨b2, o2, rfl, d1, d2, d3⟩ := sy.tri (ks.of_below hb) hy
        have hn := ne_vint x y
        have i1 : (0 : Int) ≤ (j : Int) := by omega
        have i2 : (j : Int) < (xs.length : Int) := by omega
        have i3 : (j : Int) < (ys.length : Int) := by omega
        have hE := take_both hx hy
        by_cases hxy : x = y
        · have hd := neB_f hxy
          have hE2 := hE.2 ⟨he, hxy⟩
          clear hxy hE
          go_wp2
          go_region_held3 (fun w' => w'.cell? ⟨b1, o1 + j * 3, none⟩ = some (.int .i64 x.a) ∧ w'.cell? ⟨b1, o1 + j * 3 + 1, none⟩ = some (.int .i64 x.b) ∧ w'.cell? ⟨b1, o1 + j * 3 + 2, none⟩ = some (.int .i64 x.c) ∧ w'.cell? ⟨b2, o2 + j * 3, none⟩ = some (.int .i64 y.a) ∧ w'.cell? ⟨b2, o2 + j * 3 + 1, none⟩ = some (.int .i64 y.b) ∧ w'.cell? ⟨b2, o2 + j * 3 + 2, none⟩ = some (.int .i64 y.c)) (go_keep) (fail)
          go_wp2
          go_roundw
          case rel => exact ⟨j + 1, by omega, by go_num, hE2, hb.drew⟩
          case measure => simp [intOf]; omega
        · have hd := neB_t hxy
          have hne : Hid (xs ≠ ys) := fun e => hxy (by have := hx.out; rw [e, hy.out] at this; exact (Option.some.inj this).symm)
          clear hxy hE
          go_wp2
          go_region_held3 (fun w' => w'.cell? ⟨b1, o1 + j * 3, none⟩ = some (.int .i64 x.a) ∧ w'.cell? ⟨b1, o1 + j * 3 + 1, none⟩ = some (.int .i64 x.b) ∧ w'.cell? ⟨b1, o1 + j * 3 + 2, none⟩ = some (.int .i64 x.c) ∧ w'.cell? ⟨b2, o2 + j * 3, none⟩ = some (.int .i64 y.a) ∧ w'.cell? ⟨b2, o2 + j * 3 + 1, none⟩ = some (.int .i64 y.b) ∧ w'.cell? ⟨b2, o2 + j * 3 + 2, none⟩ = some (.int .i64 y.c)) (go_keep) (fail)
          go_wp2
          go_ret
          exact ⟨by rw [eqB_f hne.out]; rfl, hb.drew⟩
      · have hfin : Hid (xs = ys) := by
          have h1 := he.out
          have hjl : j = xs.length := by omega
          rw [hjl, List.take_length] at h1
          rw [h1, hL.out, List.take_length]; rfl
        go_wp2
        go_ret
        exact ⟨by rw [eqB_t hfin.out]; rfl, hb⟩
  · have hl1 : ((xs.length : Int) == (ys.length : Int)) = false := by simp; omega
    have hl2 : ((xs.length : Int) != (ys.length : Int)) = true := by simp; omega
    have hne : Hid (xs ≠ ys) := fun e => hl (by rw [e])
    clear hl
    go_enter Try.func17, Try.ntmps17
    go_wp2
    go_ret
    exact ⟨by rw [eqB_f hne.out]; rfl, Below.refl _ _⟩
end Go.Proofs.Ytpigoegjoagbnaa
end
