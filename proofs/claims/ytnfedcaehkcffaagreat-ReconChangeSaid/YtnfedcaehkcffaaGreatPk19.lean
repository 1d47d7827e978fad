/- Walks and plain facts that the laws of this seat share, part 19: contracts of functions, each said at its theorem. -/
import Derived.Test.YtnfedcaehkcffaaGreatPk18
import Derived.Deep.DeepCutAuto
set_option linter.all false
section
/- The reconciliation, plain. No program is named here. -/
namespace Go.Sl
open Go Go.RowKit
def apV (n r o : Int) : Int := ofVal n r - ofVal n o
def difS (rt : Int) : List SWay → List Int → Int
  | r :: rows, n :: ns => apV r.mov n rt + difS rt rows ns
  | _, _ => 0
theorem apV_bd (n r o : Int) : -8000000000002 ≤ apV n r o ∧ apV n r o ≤ 8000000000002 := by
  have a := ofVal_bd n r
  have b := ofVal_bd n o
  unfold apV; omega
theorem difS_bd (rt : Int) : ∀ (rows : List SWay) (ns : List Int), -(rows.length * 8000000000002) ≤ difS rt rows ns ∧ difS rt rows ns ≤ rows.length * 8000000000002
  | r :: rows, n :: ns => by
    have h1 := difS_bd rt rows ns
    have h2 := apV_bd r.mov n rt
    simp only [difS, List.length_cons]; omega
  | [], _ => by simp [difS]
  | _ :: _, [] => by simp only [difS, List.length_cons]; omega
theorem difS_snoc {rt : Int} {r : SWay} {n : Int} : ∀ {rows : List SWay} {ns : List Int}, rows.length = ns.length → difS rt (rows ++ [r]) (ns ++ [n]) = difS rt rows ns + apV r.mov n rt
  | [], [], _ => by simp [difS]
  | x :: rows, y :: ns, h => by
    have := difS_snoc (rt := rt) (r := r) (n := n) (rows := rows) (ns := ns) (by simpa using h)
    simp only [List.cons_append, difS, this]; omega
  | [], _ :: _, h => by simp at h
  | _ :: _, [], h => by simp at h
theorem rows_half {rt : Int} (hr : 0 ≤ rt ∧ rt ≤ 1000000) : ∀ (rows : List SWay) (ns : List Int), ns.length = rows.length →
    (∀ r ∈ rows, (-100000000000 ≤ r.opn ∧ r.opn ≤ 100000000000) ∧ (-100000000000 ≤ r.clo ∧ r.clo ≤ 100000000000) ∧ r.mov = r.clo - r.opn) → (∀ n ∈ ns, rightRate n = true) →
    -(rows.length * 4000000 : Int) ≤ 2 * ((sumM rows ns - difS rt rows ns) * 1000000 - (rows.map (·.mov)).sum * rt) ∧ 2 * ((sumM rows ns - difS rt rows ns) * 1000000 - (rows.map (·.mov)).sum * rt) ≤ rows.length * 4000000
  | [], _, _, _, _ => by simp [sumM, difS]
  | _ :: _, [], h, _, _ => by simp at h
  | r :: rows, n :: ns, h, hb, hn => by
    have ih := rows_half hr rows ns (by simpa using h) (fun x hx => hb x (by simp [hx])) fun x hx => hn x (by simp [hx])
    obtain ⟨b1, b2, b3⟩ := hb r (by simp)
    have b4 : 0 ≤ n ∧ n ≤ 1000000 := by simpa [rightRate] using hn n (by simp)
    have e1 := ofVal_half (n := r.clo) (r := n) (by omega) (by omega) (by omega) (by omega)
    have e2 := ofVal_half (n := r.opn) (r := n) (by omega) (by omega) (by omega) (by omega)
    have e3 := ofVal_half (n := r.mov) (r := n) (by omega) (by omega) (by omega) (by omega)
    have e4 := ofVal_half (n := r.mov) (r := rt) (by omega) (by omega) (by omega) (by omega)
    have e5 : r.mov * n = r.clo * n - r.opn * n := by rw [b3, Int.sub_mul]
    simp only [sumM, difS, remM, apV, List.map_cons, List.sum_cons, Int.add_mul, List.length_cons] at ih ⊢
    omega
namespace SArg
variable (a : SArg)
def exp : Int := vGone a.v a.yr
def usd : Int := a.vec.sum
def new : Int := curNew a.inc
def dif : Int := apV (a.usd - a.new) a.nx a.rt + difS a.rt a.rows a.now
def i1 : Int := ofVal a.x.book a.rt
def i2 : Int := ofVal a.x.perm a.rt
def i4 : Int := a.ra + a.lr
def i6 : Int := ofVal a.exp a.nx
def i8 : Int := a.tot - (a.i1 + a.i2 + a.dif + a.i4 + a.am + a.i6 + a.x.up)
def items : List Int := [a.i1, a.i2, a.dif, a.i4, a.am, a.i6, a.x.up, a.i8]
end SArg
section
variable {a : SArg}
theorem SArg.items_sum : a.items.sum = a.tot := by
  unfold SArg.items SArg.i8
  simp; omega
theorem GoodA.row_bd (g : GoodA a) : ∀ r ∈ a.rows, (-100000000000 ≤ r.opn ∧ r.opn ≤ 100000000000) ∧ (-100000000000 ≤ r.clo ∧ r.clo ≤ 100000000000) ∧ r.mov = r.clo - r.opn := fun r hr => by
  rw [g.rows_ref] at hr
  exact row_good g.o.reg g.r hr
theorem GoodA.mov_sum (g : GoodA a) : (a.rows.map (·.mov)).sum = a.mov := by
  have h := movSum_ref g.o.reg g.r
  unfold SArg.mov
  rw [g.rows_ref, h, sum_mov _ (fun r hr => (row_good g.o.reg g.r hr).2.2), sum_clo g.r, sum_opn g.o.reg]
theorem GoodA.rt_bd (g : GoodA a) : 0 ≤ a.rt ∧ a.rt ≤ 1000000 := by
  have h : rightRate a.rt = true := rateV_bd g.t (j := a.x.j) (y := a.yr) (at' := a.x.per)
  simpa [rightRate] using h
theorem GoodA.nx_bd (g : GoodA a) : 0 ≤ a.nx ∧ a.nx ≤ 1000000 := by
  have h : rightRate a.nx = true := nextV_bd g.t (j := a.x.j) (p := a.x.per)
  simpa [rightRate] using h
theorem OkA.round (k : OkA a) (f : FitB a.o) (hl : a.o.lf = sumC a.v) : -(8 + 4 * a.rows.length : Int) ≤ 2 * a.i8 ∧ 2 * a.i8 ≤ 8 + 4 * a.rows.length := by
  have g := k.toGoodA
  obtain ⟨h1, h2, h3, h4⟩ := k.income
  have hk := k.kept
  have hm := g.mov_sum
  have hr := g.rt_bd
  have hn := g.nx_bd
  have hh := rows_half hr a.rows a.now g.now_len g.row_bd (ratL_right g.t)
  have hmo : a.mo = sumM a.rows a.now := (remMo_zero (chgE_zero (makE_zero k.z).2.2.2.2.1).2).1
  have hb1 : money a.x.book = true ∧ money a.x.perm = true ∧ money (a.x.book + a.x.perm - a.mov) = true := by
    simp only [incOk, Bool.and_eq_true] at h1
    exact ⟨h1.1, h1.2.1, h1.2.2.2⟩
  simp only [money, decide_eq_true_eq] at hb1
  have hv := curVec_bd g.v a.inc a.x.cap a.yr
  have hg := CL.gone_pos g.v a.yr
  have hlf := k.fit.lf
  have holf := f.lf
  have hls : a.ls = ofVal a.lf a.nx := k.fit.sh
  have hols := f.sh
  have hvec : a.vec = curVec a.v a.inc a.x.cap a.yr := rfl
  have hu : a.usd = a.vec.sum := rfl
  rw [← hvec] at hv
  have hnew : a.new = curNew a.inc := rfl
  have hexp : a.exp = vGone a.v a.yr := rfl
  have hnw : 0 ≤ a.new ∧ a.new ≤ 100000000000 := by rw [hnew]; unfold curNew; split <;> omega
  have hus : 0 ≤ a.usd ∧ a.usd ≤ 100000000000 := by
    rw [hu]
    by_cases h0 : 0 < a.inc
    · have := hv.2.1 h0; omega
    · have := hv.2.2 h0; omega
  have htx : a.txb = a.inc - a.usd + a.new := rfl
  have hlf' : 0 ≤ a.lf ∧ a.lf ≤ 100000000000 := hlf
  have r1 := ofVal_half (n := a.x.book) (r := a.rt) (by omega) (by omega) (by omega) (by omega)
  have r2 := ofVal_half (n := a.x.perm) (r := a.rt) (by omega) (by omega) (by omega) (by omega)
  have r3 := ofVal_half (n := a.txb) (r := a.rt) (by omega) (by omega) (by omega) (by omega)
  have r4 := ofVal_half (n := a.usd - a.new) (r := a.rt) (by omega) (by omega) (by omega) (by omega)
  have r5 := ofVal_half (n := a.usd - a.new) (r := a.nx) (by omega) (by omega) (by omega) (by omega)
  have r6 := ofVal_half (n := a.exp) (r := a.nx) (by omega) (by omega) (by omega) (by omega)
  have r7 := ofVal_half (n := a.lf) (r := a.nx) (by omega) (by omega) (by omega) (by omega)
  have r8 := ofVal_half (n := a.o.lf) (r := a.nx) (by omega) (by omega) (by omega) (by omega)
  have p1 : a.txb * a.rt = a.x.book * a.rt + a.x.perm * a.rt - a.mov * a.rt - (a.usd - a.new) * a.rt := by
    rw [htx, h2]; simp only [Int.sub_mul, Int.add_mul]; omega
  have p2 : a.o.lf * a.nx = a.lf * a.nx + (a.usd - a.new) * a.nx + a.exp * a.nx := by
    rw [← Int.add_mul, ← Int.add_mul]
    congr 1; omega
  rw [hm] at hh
  have e8 : a.i8 = ofVal a.txb a.rt + a.mo + (ofVal a.o.lf a.nx - ofVal a.lf a.nx) - ofVal a.x.book a.rt - ofVal a.x.perm a.rt - (ofVal (a.usd - a.new) a.nx - ofVal (a.usd - a.new) a.rt + difS a.rt a.rows a.now) - ofVal a.exp a.nx := by
    unfold SArg.i8 SArg.tot SArg.df SArg.lm SArg.i1 SArg.i2 SArg.i4 SArg.i6 SArg.dif SArg.lr SArg.tax apV
    rw [hls, hols]; omega
  rw [e8, hmo]
  generalize (a.usd - a.new) * a.rt = q1 at *
  generalize (a.usd - a.new) * a.nx = q2 at *
  omega
end
end Go.Sl
end
section
/- A table of one rate; a difference that comes and goes: plain. No program is named here. -/
namespace Go.Sl
open Go Go.RowKit
def oneT (R : Int) : List SRate := [⟨ukS, 0, R, 0⟩]
theorem oneT_good {R : Int} (h : 0 ≤ R ∧ R ≤ 1000000) : tabE [] ukS 0 R 0 = 0 ∧ tabAdd [] ukS 0 R 0 = oneT R ∧ GoodT (oneT R) := by
  have h1 : tabE [] ukS 0 R 0 = 0 := by
    have hr : rightRate R = true := by simp [rightRate]; omega
    have ha : tabArg ukS 0 R 0 = true := by unfold tabArg; rw [hr, show noS ukS = false from by unfold noS ukS; simp]; rfl
    unfold tabE; rw [ha]; rfl
  have h2 : tabAdd [] ukS 0 R 0 = oneT R := by unfold tabAdd; rw [if_pos h1]; rfl
  exact ⟨h1, h2, h2 ▸ GoodT.nil.add ukS 0 R 0⟩
theorem one_best {R y p : Int} (hy : 0 ≤ y) (hp : 0 ≤ p) : bestR (oneT R) ukS y p = some ⟨ukS, 0, R, 0⟩ := by
  unfold bestR oneT
  simp only [List.foldl_cons, List.foldl_nil]
  rw [better_in (x := ⟨ukS, 0, R, 0⟩) (show ukS = ukS from rfl) (by show ¬ y < 0; omega) (by show ¬ p < 0; omega)]; rfl
theorem one_rate {R y p : Int} (hy : 0 ≤ y) (hp : 0 ≤ p) : rateV (oneT R) ukS y p = R ∧ rateB (oneT R) ukS y p = true := by
  unfold rateV rateB; rw [one_best hy hp]; exact ⟨rfl, rfl⟩
theorem per_year {p : Int} (h : perOk p = true) : 0 ≤ p ∧ p ≤ 399 ∧ yearOf p = p / 4 ∧ 0 ≤ yearOf p := by
  have h1 : 0 ≤ p ∧ p ≤ 399 := by simpa [perOk] using h
  have h2 : yearOf p = p / 4 := by unfold yearOf; rw [if_pos h]
  exact ⟨h1.1, h1.2, h2, by omega⟩
theorem one_all {R p : Int} (h : perOk p = true) : rateV (oneT R) ukS (yearOf p) p = R ∧ rateB (oneT R) ukS (yearOf p) p = true ∧ nextE (oneT R) ukS p = 0 ∧ nextV (oneT R) ukS p = R ∧ ∀ xs, ratE (oneT R) ukS xs p = 0 ∧ ratL (oneT R) ukS xs p = xs.map fun _ => R := by
  obtain ⟨h1, h2, h3, h4⟩ := per_year h
  have hn : 0 ≤ nextY p := by unfold nextY; omega
  have e1 := one_rate (R := R) h4 h1
  have e2 := one_rate (R := R) hn h1
  have e3 : nextE (oneT R) ukS p = 0 := by unfold nextE; rw [if_neg (by rw [h]; decide), if_pos e2.2]
  refine ⟨e1.1, e1.2, e3, by unfold nextV; rw [if_pos e3, e2.1], fun xs => ⟨ratE_ok h fun x _ => (one_rate (by omega) h1).2, List.map_congr_left fun x _ => (one_rate (by omega) h1).1⟩⟩
theorem ofVal_100 {n k : Int} (hn : -1000000000 ≤ n ∧ n ≤ 1000000000) (hk : 0 ≤ k ∧ k ≤ 100) : ofVal (100 * n) (10000 * k) = n * k := by
  have h := ofVal_half (n := 100 * n) (r := 10000 * k) (by omega) (by omega) (by omega) (by omega)
  have e : 100 * n * (10000 * k) = 1000000 * (n * k) := by rw [Int.mul_assoc, Int.mul_left_comm n 10000 k]; omega
  rw [e] at h
  generalize n * k = q at *
  omega
theorem fwd_new (c y M : Int) : fwd [] [⟨c, y, M⟩] = [⟨c, y, 0, wrap64 (M - 0), M⟩] := rfl
theorem fwd_gone (c y M : Int) : fwd [⟨c, y, M⟩] [] = [⟨c, y, M, wrap64 (0 - M), 0⟩] := rfl
end Go.Sl
end
section
/- closing.Make in a body's own memory; law19.fresh. -/
namespace Go.Sl
open Go Go.RowKit
/-- What a close comes to. -/
structure SOut where
  rt : Int
  nx : Int
  lf : Int
  tm : Int
  ls : Int
  al : Int
  inc : Int
  gon : Int
  usd : Int
  new : Int
  txb : Int
  tax : Int
  mo : Int
  ra : Int
  lm : Int
  lr : Int
  am : Int
  df : Int
  tot : Int
  rats : List Int
  vec : List Int
  rows : List SWay
  now : List Int
  left : List STri
def SArg.out (a : SArg) : SOut := ⟨a.rt, a.nx, a.lf, a.tm, a.ls, a.al, a.inc, vGone a.v a.yr, a.vec.sum, curNew a.inc, a.txb, a.tax, a.mo, a.ra, a.lm, a.lr, a.am, a.df, a.tot, a.rats, a.vec, a.rows, a.now, a.left⟩
def SOut.clo (u : SOut) (per : Int) (r : List STri) : SBal := ⟨per, r, u.rats, u.nx, u.lf, u.tm, u.ls, u.al⟩
theorem clo_out {a : SArg} {u : SOut} (h : a.out = u) : a.clo = u.clo a.x.per a.r := by subst h; rfl
end Go.Sl
namespace Go.Proofs.YtnfedcaehkcffaaGreat
open Go.RowKit Go.Sl
set_option maxHeartbeats 2000000
set_option maxRecDepth 100000
set_option linter.unusedSimpArgs false
def MkOk (x : SInp) (o : SBal) (r : List STri) (u : SOut) (w0 : World) (L : List Hp) (e : Ending) (w' : World) : Prop :=
  ∃ (h hl : Hp) (bl : Nat) (D : Option Addr) (cd : Nat) (G : Option Addr) (cg : Nat) (R : Option Addr) (cr : Nat) (Q : Option Addr) (cq : Nat) (V : Option Addr) (cv : Nat) (C : Option Addr) (cw : Nat) (N : Option Addr) (cn : Nat),
    e = .returned (.tuple #[.agg #[.string x.j, .int .i64 x.per, .int .i64 x.book, .int .i64 x.perm, .int .i64 x.judge, .int .i64 x.cap, .int .i64 x.life, .int .i64 x.up, .int .i64 u.rt, .int .i64 o.per, .slice D o.xs.length cd, .slice G o.rs.length cg, .int .i64 o.nx, .int .i64 o.lf, .int .i64 o.tm, .int .i64 o.ls, .int .i64 o.al, .int .i64 x.per, .slice R r.length cr, .slice Q u.rats.length cq, .int .i64 u.nx, .int .i64 u.lf, .int .i64 u.tm, .int .i64 u.ls, .int .i64 u.al, .int .i64 u.inc, .int .i64 u.gon, .int .i64 u.usd, .int .i64 u.new, .int .i64 u.txb, .int .i64 u.tax, .slice V u.vec.length cv, .slice C u.rows.length cw, .slice N u.now.length cn, .int .i64 u.mo, .int .i64 u.ra, .int .i64 u.lm, .int .i64 u.lr, .int .i64 u.am, .int .i64 u.df, .int .i64 u.tot], .pointer (some ⟨bl, 0, none⟩), .int .i64 0]) ∧
    Sl kTri h D cd o.xs ∧ Sl kInt h G cg o.rs ∧ Sl kTri h R cr r ∧ Sl kInt h Q cq u.rats ∧ Sl kInt h V cv u.vec ∧ Sl kWay h C cw u.rows ∧ Sl kInt h N cn u.now ∧ Vnt hl bl u.left ∧ Env w0 w' (L ++ [h, hl])
section
variable {w0 w : World} {L : List Hp} {t : List SRate} {x : SInp} {o : SBal} {v r : List STri} {u : SOut} {A B : Option Addr} {ca cb bt bv br : Nat} {ht hx hs hv hr : Hp}
theorem Mk.ok (E : Env w0 w L) (g : GoodA ⟨t, x, o, v, r⟩) (h0 : Hid ((⟨t, x, o, v, r⟩ : SArg).makE = 0)) (hu : Hid ((⟨t, x, o, v, r⟩ : SArg).out = u)) (hts : ht.sub w) (hxs : hx.sub w) (hss : hs.sub w) (hvs : hv.sub w) (hrs : hr.sub w)
    (pt : PtT ht bt t) (sx : Sl kTri hx A ca o.xs) (ss : Sl kInt hs B cb o.rs) (SV : Vnt hv bv v) (SR : Regi hr br r) :
    Calls Tryz.prog 17 #[.pointer (some ⟨bt, 0, none⟩), .agg #[.string x.j, .int .i64 x.per, .int .i64 x.book, .int .i64 x.perm, .int .i64 x.judge, .int .i64 x.cap, .int .i64 x.life, .int .i64 x.up], .agg #[.int .i64 o.per, .slice A o.xs.length ca, .slice B o.rs.length cb, .int .i64 o.nx, .int .i64 o.lf, .int .i64 o.tm, .int .i64 o.ls, .int .i64 o.al], .pointer (some ⟨bv, 0, none⟩), .pointer (some ⟨br, 0, none⟩)] w (MkOk x o r u w0 L) := by
  obtain rfl := hu.out
  refine (closingMake_calls t x o v r g A B ca cb bt bv br ht hx hs hv hr w hts hxs hss hvs hrs pt sx ss SV SR).mono ?_
  intro e w' hM
  rcases hM with ⟨h1, _⟩ | ⟨_, h, hl, bl, cs, he, ⟨D, cd, G, cg, R, cr, Q, cq, V, cv, C, cw, N, cn, hcs, s1, s2, s3, s4, s5, s6, s7⟩, SL, F⟩
  · exact absurd h0.out h1
  · subst hcs
    exact ⟨h, hl, bl, D, cd, G, cg, R, cr, Q, cq, V, cv, C, cw, N, cn, he, s1, s2, s3, s4, s5, s6, s7, SL, E.join F⟩
theorem Mk.err (E : Env w0 w L) (g : GoodA ⟨t, x, o, v, r⟩) {q : Int} (hE : Hid ((⟨t, x, o, v, r⟩ : SArg).makE = q)) (h0 : Hid (q ≠ 0)) (hts : ht.sub w) (hxs : hx.sub w) (hss : hs.sub w) (hvs : hv.sub w) (hrs : hr.sub w)
    (pt : PtT ht bt t) (sx : Sl kTri hx A ca o.xs) (ss : Sl kInt hs B cb o.rs) (SV : Vnt hv bv v) (SR : Regi hr br r) :
    Calls Tryz.prog 17 #[.pointer (some ⟨bt, 0, none⟩), .agg #[.string x.j, .int .i64 x.per, .int .i64 x.book, .int .i64 x.perm, .int .i64 x.judge, .int .i64 x.cap, .int .i64 x.life, .int .i64 x.up], .agg #[.int .i64 o.per, .slice A o.xs.length ca, .slice B o.rs.length cb, .int .i64 o.nx, .int .i64 o.lf, .int .i64 o.tm, .int .i64 o.ls, .int .i64 o.al], .pointer (some ⟨bv, 0, none⟩), .pointer (some ⟨br, 0, none⟩)] w fun e w' => e = .returned (.tuple #[.agg #[.string ⟨#[]⟩, .int .i64 0, .int .i64 0, .int .i64 0, .int .i64 0, .int .i64 0, .int .i64 0, .int .i64 0, .int .i64 0, .int .i64 0, .slice none 0 0, .slice none 0 0, .int .i64 0, .int .i64 0, .int .i64 0, .int .i64 0, .int .i64 0, .int .i64 0, .slice none 0 0, .slice none 0 0, .int .i64 0, .int .i64 0, .int .i64 0, .int .i64 0, .int .i64 0, .int .i64 0, .int .i64 0, .int .i64 0, .int .i64 0, .int .i64 0, .int .i64 0, .slice none 0 0, .slice none 0 0, .slice none 0 0, .int .i64 0, .int .i64 0, .int .i64 0, .int .i64 0, .int .i64 0, .int .i64 0, .int .i64 0], .pointer none, .int .i64 q]) ∧ Env w0 w' L := by
  obtain rfl := hE.out
  refine (closingMake_calls t x o v r g A B ca cb bt bv br ht hx hs hv hr w hts hxs hss hvs hrs pt sx ss SV SR).mono ?_
  intro e w' hM
  rcases hM with ⟨_, he, hb⟩ | ⟨h1, _⟩
  · exact ⟨he, E.below hb⟩
  · exact absurd h1 h0.out
end
theorem fresh19_calls (R : Int) (hR : 0 ≤ R ∧ R ≤ 1000000) (w : World) :
    Calls Tryz.prog 14 #[.int .i64 R] w fun e w' => ∃ ht bt hr br hv bv, e = .returned (.tuple #[.pointer (some ⟨bt, 0, none⟩), .pointer (some ⟨br, 0, none⟩), .pointer (some ⟨bv, 0, none⟩), .bool true]) ∧ Tab ht bt (oneT R) ∧ Regi hr br [] ∧ Vnt hv bv [] ∧ Env w w' [ht, hr, hv] := by
  obtain ⟨h1, h2, _⟩ := oneT_good hR
  have H1 := Lib.hid h1
  have H2 := Lib.hid h2
  clear h1 h2
  have E0 := Env.start w
  go_enter Tryz.func14, Tryz.ntmps14
  go_wp2_with fail
  refine (Tab.new E0).mono ?_
  rintro e w1 ⟨h1, b1, rfl, S1, E1⟩
  try simp at E1
  go_wp2_with fail
  refine (Regi.new E1).mono ?_
  rintro e w2 ⟨h2, b2, rfl, S2, E2⟩
  try simp at E2
  go_wp2_with fail
  refine (Vnt.new E2).mono ?_
  rintro e w3 ⟨h3, b3, rfl, S3, E3⟩
  try simp at E3
  go_wp2_with fail
  refine (Tab.add S1 E3 0 rfl ukS 0 R 0 ⟨H1.out, H2.out⟩).mono ?_
  rintro e w4 ⟨h4, rfl, S4, E4⟩
  simp at E4
  go_wp2
  exact bodyPost_ret (v := .tuple #[.pointer (some ⟨b1, 0, none⟩), .pointer (some ⟨b2, 0, none⟩), .pointer (some ⟨b3, 0, none⟩), .bool true]) (by simp [results, Tryz.results14, go_sem]) rfl ⟨h4, b1, h2, b2, h3, b3, rfl, S4, S2, S3, E4⟩
theorem wk_facts : (⟨oneT 250000, ⟨ukS, 0, 100, 0, 0, 500000, 3, 0⟩, balNone, [], []⟩ : SArg).makE = 0 ∧ (⟨oneT 250000, ⟨ukS, 0, 100, 0, 0, 500000, 3, 0⟩, balNone, [], []⟩ : SArg).tot = 25 ∧ (⟨oneT 250000, ⟨ukS, 0, 100, 0, 0, 500000, 3, 0⟩, balNone, [], []⟩ : SArg).df = 0 := by
  decide +kernel
theorem wk_good {R : Int} (h : 0 ≤ R ∧ R ≤ 1000000) (x : SInp) : GoodA ⟨oneT R, x, balNone, [], []⟩ := ⟨(oneT_good h).2.2, GoodB.none, GoodV.nil, GoodR.nil⟩
theorem wakes19 (w : World) : Calls Tryz.prog 21 #[] w fun e w' => e = .returned (.bool true) ∧ Below w.heap.size w w' := by
  obtain ⟨hm, ht, hd⟩ := wk_facts
  have g := wk_good (R := 250000) (by decide) ⟨ukS, 0, 100, 0, 0, 500000, 3, 0⟩
  obtain ⟨q1, q2, _⟩ := oneT_good (R := 250000) (by decide)
  have H1 := Lib.hid q1
  have H2 := Lib.hid q2
  have HM := Lib.hid hm
  obtain ⟨u, hu⟩ : ∃ u, Hid ((⟨oneT 250000, ⟨ukS, 0, 100, 0, 0, 500000, 3, 0⟩, balNone, [], []⟩ : SArg).out = u) := ⟨_, rfl⟩
  have u1 : u.tot = 25 := by rw [← hu.out]; exact ht
  have u2 : u.df = 0 := by rw [← hu.out]; exact hd
  clear hm ht hd q1 q2
  have E0 := Env.start w
  go_enter Tryz.func21, Tryz.ntmps21
  go_wp2_with fail
  refine (Tab.new E0).mono ?_
  rintro e w1 ⟨h1, b1, rfl, S1, E1⟩
  try simp at E1
  go_wp2_with fail
  refine (Tab.add S1 E1 0 rfl ukS 0 250000 0 ⟨H1.out, H2.out⟩).mono ?_
  rintro e w4 ⟨h4, rfl, S4, E4⟩
  simp at E4
  go_wp2_with fail
  refine (closingNone_calls _).mono ?_
  rintro e w5 ⟨rfl, B5⟩
  have E5 := E4.below B5
  go_wp2_with fail
  refine (Vnt.new E5).mono ?_
  rintro e w6 ⟨h6, b6, rfl, S6, E6⟩
  try simp at E6
  go_wp2_with fail
  refine (Regi.new E6).mono ?_
  rintro e w7 ⟨h7, b7, rfl, S7, E7⟩
  try simp at E7
  go_wp2_with fail
  refine (Mk.ok (o := balNone) (A := none) (B := none) (ca := 0) (cb := 0) (hx := Hp.none) (hs := Hp.none) E7 g HM hu (E7.sub 0 rfl) (Hp.none_sub _) (Hp.none_sub _) (E7.sub 1 rfl) (E7.sub 2 rfl) S4.pt (Sl.none _ _) (Sl.none _ _) S6 S7).mono ?_
  rintro e w8 ⟨h8, hl, bl, D, cd, G, cg, R, cr, Q, cq, V, cv, C, cw, N, cn, rfl, _, _, _, _, _, _, _, SL, E8⟩
  go_upto_region 5 with (refine wpList_store_env rfl (E8.box0 [.string ⟨#[]⟩, .int .i64 0, .int .i64 0, .int .i64 0, .int .i64 0, .int .i64 0, .int .i64 0, .int .i64 0, .int .i64 0, .int .i64 0, .slice none 0 0, .slice none 0 0, .int .i64 0, .int .i64 0, .int .i64 0, .int .i64 0, .int .i64 0, .int .i64 0, .slice none 0 0, .slice none 0 0, .int .i64 0, .int .i64 0, .int .i64 0, .int .i64 0, .int .i64 0, .int .i64 0, .int .i64 0, .int .i64 0, .int .i64 0, .int .i64 0, .int .i64 0, .slice none 0 0, .slice none 0 0, .slice none 0 0, .int .i64 0, .int .i64 0, .int .i64 0, .int .i64 0, .int .i64 0, .int .i64 0, .int .i64 0] 44) 0 rfl 44 _ _ rfl 0 _ rfl rfl (by simp) (by kernel_rfl) (by simp [Value.oneCell']) ?_; intro W9 E9)
  simp at E9
  have c11 := E9.cell 0 rfl 39 rfl
  have c12 := E9.cell 0 rfl 40 rfl
  clear u1 u2
  go_wp2
  go_ret
  exact ⟨rfl, E9.low⟩
end Go.Proofs.YtnfedcaehkcffaaGreat
end
section
/- A difference that comes and goes, plain. No program is named here. -/
namespace Go.Sl
open Go Go.RowKit
theorem one_reg {c y M : Int} (h : bucketOk c y = true) (h0 : M ≠ 0) (hM : -100000000000 ≤ M ∧ M ≤ 100000000000) : GoodR [⟨c, y, M⟩] := by
  refine ⟨List.pairwise_singleton _ _, ?_, ?_, ?_, ?_⟩
  all_goals first
    | (intro b hb; simp at hb; subst hb; first | exact h0 | exact h | (simp [money]; omega))
    | simp
theorem mv_new {c y M : Int} (hb : bucketOk c y = true) (h0 : M ≠ 0) (hM : money M = true) : moveE [] c y M = 0 ∧ moveR [] c y M = [⟨c, y, M⟩] := by
  have hs : setB [] c y (getB [] c y + M) = [⟨c, y, M⟩] := by
    show setB [] c y (0 + M) = _
    rw [Int.zero_add]; unfold setB; rw [if_neg h0]; rfl
  have h : moveE [] c y M = 0 := by
    unfold moveE
    rw [hs, hb, hM]
    show (if (true && true) = false then (1 : Int) else if (money (0 + M) && money (0 + M)) = false then 6 else if 12 < 1 then 5 else 0) = 0
    rw [Int.zero_add, hM]; rfl
  exact ⟨h, by unfold moveR; rw [if_pos h, hs]⟩
theorem mv_back {c y M : Int} (hb : bucketOk c y = true) (hM : money (-M) = true) : moveE [⟨c, y, M⟩] c y (-M) = 0 ∧ moveR [⟨c, y, M⟩] c y (-M) = [] := by
  have hg : getB [⟨c, y, M⟩] c y = M := by simp [getB, find, rkey]
  have hs : setB [⟨c, y, M⟩] c y (getB [⟨c, y, M⟩] c y + -M) = [] := by
    rw [hg, Int.add_right_neg]; unfold setB; rw [if_pos rfl]; simp [del, rkey]
  have h : moveE [⟨c, y, M⟩] c y (-M) = 0 := by
    unfold moveE
    rw [hs, hb, hM, hg]
    have h1 : sumC [⟨c, y, M⟩] + -M = 0 := by simp [sumC, Int.add_right_neg]
    rw [h1, Int.add_right_neg]; rfl
  exact ⟨h, by unfold moveR; rw [if_pos h, hs]⟩

def tu1A (k b m : Int) : SArg := ⟨oneT (10000 * k), ⟨ukS, 0, 100 * b, 0, 0, 0, 3, 0⟩, balNone, [], [⟨2, 7, 100 * m⟩]⟩
theorem tu1 {k b m : Int} (hk : 0 ≤ k ∧ k ≤ 100) (hb : 100000 ≤ b ∧ b < 200000) (hm : 1 ≤ m ∧ m ≤ 100000) :
    GoodA (tu1A k b m) ∧ (tu1A k b m).makE = 0 ∧ (tu1A k b m).tax = (b - m) * k ∧ (tu1A k b m).df = m * k ∧ (tu1A k b m).tot = b * k ∧ (tu1A k b m).clo = (⟨0, [⟨2, 7, 100 * m⟩], [10000 * k], 10000 * k, 0, -(m * k), 0, 0⟩ : SBal) ∧ (tu1A k b m).left = [] ∧ (tu1A k b m).rows = [⟨2, 7, 0, 100 * m, 100 * m⟩] ∧ (tu1A k b m).tm = -(m * k) := by
  have hR : 0 ≤ 10000 * k ∧ 10000 * k ≤ 1000000 := by omega
  have q1 : 0 ≤ m * k := Int.mul_nonneg (by omega) hk.1
  have q2 : m * k ≤ 100000 * 100 := Int.mul_le_mul hm.2 hk.2 hk.1 (by omega)
  have q3 : 0 ≤ b * k := Int.mul_nonneg (by omega) hk.1
  have q4 : b * k ≤ 200000 * 100 := Int.mul_le_mul (by omega) hk.2 hk.1 (by omega)
  have q5 : (b - m) * k = b * k - m * k := by rw [Int.sub_mul]
  have rR : rightRate (10000 * k) = true := by simp [rightRate]; omega
  have hM : money (100 * m) = true := by simp [money]; omega
  have vM : ofVal (100 * m) (10000 * k) = m * k := ofVal_100 (by omega) hk
  have vN : ofVal (100 * (b - m)) (10000 * k) = (b - m) * k := ofVal_100 (by omega) hk
  obtain ⟨h1, h2, h3, h4, h5⟩ := one_all (R := 10000 * k) (p := 0) (by decide)
  have g : GoodA (tu1A k b m) := ⟨(oneT_good hR).2.2, GoodB.none, GoodV.nil, one_reg (by decide) (by omega) (by omega)⟩
  have e_rows : (tu1A k b m).rows = [⟨2, 7, 0, 100 * m, 100 * m⟩] := by
    show fwd [] [⟨2, 7, 100 * m⟩] = _
    rw [fwd_new, wrap64_small (by omega)]
    congr 2
    omega
  have e_mov : (tu1A k b m).mov = 100 * m := by
    unfold SArg.mov movSum; rw [e_rows]
    show wrap64 (0 + 100 * m) = _
    rw [wrap64_small (by omega)]; omega
  have hI : incOk (100 * b) 0 (100 * m) = true := by simp [incOk, money]; omega
  have e_inc : (tu1A k b m).inc = 100 * (b - m) := by
    show incV (100 * b) 0 (tu1A k b m).mov = _
    rw [e_mov]; unfold incV; rw [if_pos hI]; omega
  have e_vec : (tu1A k b m).vec = [] := by
    show curVec [] _ _ _ = []
    unfold curVec; split <;> rfl
  have e_left : (tu1A k b m).left = [] := by
    show curNext [] (tu1A k b m).inc _ _ _ = []
    rw [e_inc]
    unfold curNext
    split
    · unfold vTake; split <;> rfl
    · rw [if_neg (by omega)]; rfl
  have e_lf : (tu1A k b m).lf = 0 := by unfold SArg.lf; rw [e_left]; rfl
  have e_txb : (tu1A k b m).txb = 100 * (b - m) := by
    show (tu1A k b m).inc - (tu1A k b m).vec.sum + curNew (tu1A k b m).inc = _
    rw [e_inc, e_vec]; unfold curNew; rw [if_neg (by omega)]; simp
  have e_tax : (tu1A k b m).tax = (b - m) * k := by
    unfold SArg.tax; rw [e_txb, show (tu1A k b m).rt = 10000 * k from h1, vN]
  have e_nx : (tu1A k b m).nx = 10000 * k := h4
  have e_rats : (tu1A k b m).rats = [10000 * k] := (h5 _).2
  have e_me : meaE (tu1A k b m).r (tu1A k b m).rats = 0 := by
    rw [e_rats]
    show meaE [⟨2, 7, 100 * m⟩] [10000 * k] = 0
    unfold meaE; rw [if_neg (by simp), if_neg (by simp [meaAll, meaOk, rR, hM]), if_neg (by simp [meaS, vM, money]; omega)]
  have e_tm : (tu1A k b m).tm = -(m * k) := by
    unfold SArg.tm; rw [meaN_zero e_me, e_rats]
    show -meaS [⟨2, 7, 100 * m⟩] [10000 * k] = _
    simp [meaS, vM]
  have e_ls : (tu1A k b m).ls = 0 := by
    unfold SArg.ls; rw [e_lf]
    have := shareV_rng 0 (tu1A k b m).nx; omega
  have e_al : (tu1A k b m).al = 0 := by
    unfold SArg.al; rw [e_ls]
    have := shareV_rng 0 (tu1A k b m).x.judge; omega
  have e_now : (tu1A k b m).now = [10000 * k] := by
    show ratL _ _ (tu1A k b m).wb _ = _
    have hw : (tu1A k b m).wb = [⟨2, 7, 0⟩] := by unfold SArg.wb; rw [e_rows]; rfl
    rw [hw]; exact (h5 _).2
  have e_was : (tu1A k b m).was = [10000 * k] := by
    unfold SArg.was; rw [e_rows, e_now]
    show [oldOf balNone _ _] = _
    rfl
  have e_rem : remE (tu1A k b m).rows (tu1A k b m).was (tu1A k b m).now = 0 := by
    rw [e_rows, e_was, e_now]
    refine (remE_ok (by rfl) (by rfl) ?_ ?_ ?_).1
    · simp [remAll, remOk, rR, hM]; try decide
    · simp [sumM, remM, vM, ofVal_zero, money]; omega
    · simp [sumR, remR, money]
  obtain ⟨z1, z2⟩ := remMo_zero e_rem
  have e_mo : (tu1A k b m).mo = m * k := by
    unfold SArg.mo; rw [z1, e_rows, e_now]
    simp [sumM, remM, vM, ofVal_zero]
  have e_ra : (tu1A k b m).ra = 0 := by
    unfold SArg.ra; rw [z2, e_rows, e_was, e_now]
    simp [sumR, remR]
  have e_lr : (tu1A k b m).lr = 0 := by
    show ofVal 0 _ - ofVal 0 _ = 0
    rw [ofVal_zero, ofVal_zero]; rfl
  have e_lm : (tu1A k b m).lm = 0 := by
    show 0 - (tu1A k b m).ls - (tu1A k b m).lr = 0
    rw [e_ls, e_lr]; rfl
  have e_am : (tu1A k b m).am = 0 := by
    show 0 - (tu1A k b m).al = 0
    rw [e_al]; rfl
  have e_df : (tu1A k b m).df = m * k := by
    unfold SArg.df; rw [e_mo, e_ra, e_lr, e_lm, e_am]; omega
  have e_tot : (tu1A k b m).tot = b * k := by
    show (tu1A k b m).tax + (tu1A k b m).df + 0 = _
    rw [e_tax, e_df, q5]; omega
  have e_clo : (tu1A k b m).clo = (⟨0, [⟨2, 7, 100 * m⟩], [10000 * k], 10000 * k, 0, -(m * k), 0, 0⟩ : SBal) := by
    unfold SArg.clo; rw [e_rats, e_nx, e_lf, e_tm, e_ls, e_al]; rfl
  refine ⟨g, ?_, e_tax, e_df, e_tot, e_clo, e_left, e_rows, e_tm⟩
  have m1 : (tu1A k b m).argOk = true := by show (perOk 0 && (rightRate 0 && money 0)) = true; decide
  have m2 : (tu1A k b m).knownE = 0 := by
    unfold SArg.knownE
    rw [if_neg (by rw [show rateB (tu1A k b m).t (tu1A k b m).x.j (tu1A k b m).yr (tu1A k b m).x.per = true from h2]; decide), if_neg (by rw [show nextE (tu1A k b m).t (tu1A k b m).x.j (tu1A k b m).x.per = 0 from h3]; decide)]
    exact (h5 _).1
  have m3 : (tu1A k b m).taxE = 0 := by
    show curE [] (100 * b) 0 (tu1A k b m).mov 0 3 (yearOf 0) (tu1A k b m).rt = 0
    rw [e_mov, show (tu1A k b m).rt = 10000 * k from h1]
    unfold curE
    rw [if_neg (by unfold curArg; rw [rR]; decide), if_neg (by rw [hI]; decide), if_neg (by unfold incV; rw [if_pos hI]; omega)]
  have m4 : (tu1A k b m).balE = 0 := by
    unfold SArg.balE
    rw [if_neg (by rw [e_me]; decide), e_lf, e_nx, e_ls]
    have s1 : shareE 0 (10000 * k) = 0 := by unfold shareE; rw [rR]; rfl
    rw [if_neg (by rw [s1]; decide)]
    show shareE 0 0 = 0
    decide
  have m5 : (tu1A k b m).chgE = 0 := by
    unfold SArg.chgE
    rw [if_neg (by rw [show ratE (tu1A k b m).t (tu1A k b m).x.j (tu1A k b m).wb (tu1A k b m).x.per = 0 from (h5 _).1]; decide)]
    exact e_rem
  have m6 : (tu1A k b m).costE = 0 := by
    unfold SArg.costE SArg.costs
    rw [e_lm, e_lr, e_am, e_tax, e_tm, e_ls, e_al, e_df, e_tot, q5]
    rw [if_pos]
    show List.all [0, 0, 0, _ + 0, _ - (0), 0 - 0, 0 - 0, _, _] money = true
    simp [money]; omega
  unfold SArg.makE
  rw [if_neg (by rw [m1]; decide), if_neg (by rw [m2]; decide), if_neg (by rw [m3]; decide), if_neg (by rw [m4]; decide), if_neg (by rw [m5]; decide), m6]

def tu2A (k b m : Int) : SArg := ⟨oneT (10000 * k), ⟨ukS, 1, 100 * b, 0, 0, 0, 3, 0⟩, ⟨0, [⟨2, 7, 100 * m⟩], [10000 * k], 10000 * k, 0, -(m * k), 0, 0⟩, [], []⟩
theorem tu2 {k b m : Int} (hk : 0 ≤ k ∧ k ≤ 100) (hb : 100000 ≤ b ∧ b < 200000) (hm : 1 ≤ m ∧ m ≤ 100000) :
    GoodA (tu2A k b m) ∧ (tu2A k b m).makE = 0 ∧ (tu2A k b m).tax = (b + m) * k ∧ (tu2A k b m).df = -(m * k) ∧ (tu2A k b m).tot = b * k ∧ (tu2A k b m).clo = (⟨1, [], [], 10000 * k, 0, 0, 0, 0⟩ : SBal) ∧ (tu2A k b m).left = [] ∧ (tu2A k b m).rows = [⟨2, 7, 100 * m, -(100 * m), 0⟩] ∧ (tu2A k b m).tm = 0 := by
  have hR : 0 ≤ 10000 * k ∧ 10000 * k ≤ 1000000 := by omega
  have q1 : 0 ≤ m * k := Int.mul_nonneg (by omega) hk.1
  have q2 : m * k ≤ 100000 * 100 := Int.mul_le_mul hm.2 hk.2 hk.1 (by omega)
  have q3 : 0 ≤ b * k := Int.mul_nonneg (by omega) hk.1
  have q4 : b * k ≤ 200000 * 100 := Int.mul_le_mul (by omega) hk.2 hk.1 (by omega)
  have q5 : (b + m) * k = b * k + m * k := by rw [Int.add_mul]
  have rR : rightRate (10000 * k) = true := by simp [rightRate]; omega
  have hM : money (100 * m) = true := by simp [money]; omega
  have vM : ofVal (100 * m) (10000 * k) = m * k := ofVal_100 (by omega) hk
  have vN : ofVal (100 * (b + m)) (10000 * k) = (b + m) * k := ofVal_100 (by omega) hk
  obtain ⟨h1, h2, h3, h4, h5⟩ := one_all (R := 10000 * k) (p := 1) (by decide)
  have g : GoodA (tu2A k b m) := ⟨(oneT_good hR).2.2, (show GoodB ⟨0, [⟨2, 7, 100 * m⟩], [10000 * k], 10000 * k, 0, -(m * k), 0, 0⟩ from ⟨one_reg (by decide) (by omega) (by omega), rfl, (by simpa using rR), rR, (by simp), (by simp [money]; omega), (by simp), (by simp)⟩), GoodV.nil, GoodR.nil⟩
  have e_rows : (tu2A k b m).rows = [⟨2, 7, 100 * m, -(100 * m), 0⟩] := by
    show fwd [⟨2, 7, 100 * m⟩] [] = _
    rw [fwd_gone, wrap64_small (by omega)]
    congr 2
    omega
  have e_mov : (tu2A k b m).mov = -(100 * m) := by
    unfold SArg.mov movSum; rw [e_rows]
    show wrap64 (0 + -(100 * m)) = _
    rw [wrap64_small (by omega)]; omega
  have hI : incOk (100 * b) 0 (-(100 * m)) = true := by simp [incOk, money]; omega
  have e_inc : (tu2A k b m).inc = 100 * (b + m) := by
    show incV (100 * b) 0 (tu2A k b m).mov = _
    rw [e_mov]; unfold incV; rw [if_pos hI]; omega
  have e_vec : (tu2A k b m).vec = [] := by
    show curVec [] _ _ _ = []
    unfold curVec; split <;> rfl
  have e_left : (tu2A k b m).left = [] := by
    show curNext [] (tu2A k b m).inc _ _ _ = []
    rw [e_inc]
    unfold curNext
    split
    · unfold vTake; split <;> rfl
    · rw [if_neg (by omega)]; rfl
  have e_lf : (tu2A k b m).lf = 0 := by unfold SArg.lf; rw [e_left]; rfl
  have e_txb : (tu2A k b m).txb = 100 * (b + m) := by
    show (tu2A k b m).inc - (tu2A k b m).vec.sum + curNew (tu2A k b m).inc = _
    rw [e_inc, e_vec]; unfold curNew; rw [if_neg (by omega)]; simp
  have e_tax : (tu2A k b m).tax = (b + m) * k := by
    unfold SArg.tax; rw [e_txb, show (tu2A k b m).rt = 10000 * k from h1, vN]
  have e_nx : (tu2A k b m).nx = 10000 * k := h4
  have e_rats : (tu2A k b m).rats = [] := (h5 _).2
  have e_me : meaE (tu2A k b m).r (tu2A k b m).rats = 0 := by
    rw [e_rats]
    show meaE [] [] = 0
    decide
  have e_tm : (tu2A k b m).tm = 0 := by
    unfold SArg.tm; rw [meaN_zero e_me, e_rats]
    show -meaS [] [] = _
    simp [meaS]
  have e_ls : (tu2A k b m).ls = 0 := by
    unfold SArg.ls; rw [e_lf]
    have := shareV_rng 0 (tu2A k b m).nx; omega
  have e_al : (tu2A k b m).al = 0 := by
    unfold SArg.al; rw [e_ls]
    have := shareV_rng 0 (tu2A k b m).x.judge; omega
  have e_now : (tu2A k b m).now = [10000 * k] := by
    show ratL _ _ (tu2A k b m).wb _ = _
    have hw : (tu2A k b m).wb = [⟨2, 7, 0⟩] := by unfold SArg.wb; rw [e_rows]; rfl
    rw [hw]; exact (h5 _).2
  have e_was : (tu2A k b m).was = [10000 * k] := by
    unfold SArg.was; rw [e_rows, e_now]
    show [oldOf ⟨0, [⟨2, 7, 100 * m⟩], [10000 * k], 10000 * k, 0, -(m * k), 0, 0⟩ _ _] = _
    rfl
  have e_rem : remE (tu2A k b m).rows (tu2A k b m).was (tu2A k b m).now = 0 := by
    rw [e_rows, e_was, e_now]
    refine (remE_ok (by rfl) (by rfl) ?_ ?_ ?_).1
    · simp [remAll, remOk, rR, hM]; try decide
    · simp [sumM, remM, vM, ofVal_zero, money]; omega
    · simp [sumR, remR, money]
  obtain ⟨z1, z2⟩ := remMo_zero e_rem
  have e_mo : (tu2A k b m).mo = -(m * k) := by
    unfold SArg.mo; rw [z1, e_rows, e_now]
    simp [sumM, remM, vM, ofVal_zero]
  have e_ra : (tu2A k b m).ra = 0 := by
    unfold SArg.ra; rw [z2, e_rows, e_was, e_now]
    simp [sumR, remR]
  have e_lr : (tu2A k b m).lr = 0 := by
    show ofVal 0 _ - ofVal 0 _ = 0
    rw [ofVal_zero, ofVal_zero]; rfl
  have e_lm : (tu2A k b m).lm = 0 := by
    show 0 - (tu2A k b m).ls - (tu2A k b m).lr = 0
    rw [e_ls, e_lr]; rfl
  have e_am : (tu2A k b m).am = 0 := by
    show 0 - (tu2A k b m).al = 0
    rw [e_al]; rfl
  have e_df : (tu2A k b m).df = -(m * k) := by
    unfold SArg.df; rw [e_mo, e_ra, e_lr, e_lm, e_am]; omega
  have e_tot : (tu2A k b m).tot = b * k := by
    show (tu2A k b m).tax + (tu2A k b m).df + 0 = _
    rw [e_tax, e_df, q5]; omega
  have e_clo : (tu2A k b m).clo = (⟨1, [], [], 10000 * k, 0, 0, 0, 0⟩ : SBal) := by
    unfold SArg.clo; rw [e_rats, e_nx, e_lf, e_tm, e_ls, e_al]; rfl
  refine ⟨g, ?_, e_tax, e_df, e_tot, e_clo, e_left, e_rows, e_tm⟩
  have m1 : (tu2A k b m).argOk = true := by show (perOk 1 && (rightRate 0 && money 0)) = true; decide
  have m2 : (tu2A k b m).knownE = 0 := by
    unfold SArg.knownE
    rw [if_neg (by rw [show rateB (tu2A k b m).t (tu2A k b m).x.j (tu2A k b m).yr (tu2A k b m).x.per = true from h2]; decide), if_neg (by rw [show nextE (tu2A k b m).t (tu2A k b m).x.j (tu2A k b m).x.per = 0 from h3]; decide)]
    exact (h5 _).1
  have m3 : (tu2A k b m).taxE = 0 := by
    show curE [] (100 * b) 0 (tu2A k b m).mov 0 3 (yearOf 1) (tu2A k b m).rt = 0
    rw [e_mov, show (tu2A k b m).rt = 10000 * k from h1]
    unfold curE
    rw [if_neg (by unfold curArg; rw [rR]; decide), if_neg (by rw [hI]; decide), if_neg (by unfold incV; rw [if_pos hI]; omega)]
  have m4 : (tu2A k b m).balE = 0 := by
    unfold SArg.balE
    rw [if_neg (by rw [e_me]; decide), e_lf, e_nx, e_ls]
    have s1 : shareE 0 (10000 * k) = 0 := by unfold shareE; rw [rR]; rfl
    rw [if_neg (by rw [s1]; decide)]
    show shareE 0 0 = 0
    decide
  have m5 : (tu2A k b m).chgE = 0 := by
    unfold SArg.chgE
    rw [if_neg (by rw [show ratE (tu2A k b m).t (tu2A k b m).x.j (tu2A k b m).wb (tu2A k b m).x.per = 0 from (h5 _).1]; decide)]
    exact e_rem
  have m6 : (tu2A k b m).costE = 0 := by
    unfold SArg.costE SArg.costs
    rw [e_lm, e_lr, e_am, e_tax, e_tm, e_ls, e_al, e_df, e_tot, q5]
    rw [if_pos]
    show List.all [0, 0, 0, _ + 0, _ - (-(m * k)), 0 - 0, 0 - 0, _, _] money = true
    simp [money]; omega
  unfold SArg.makE
  rw [if_neg (by rw [m1]; decide), if_neg (by rw [m2]; decide), if_neg (by rw [m3]; decide), if_neg (by rw [m4]; decide), if_neg (by rw [m5]; decide), m6]

end Go.Sl
end
section
/- The walk of ClosingTurns. -/
namespace Go.Proofs.YtnfedcaehkcffaaGreat
open Go.RowKit Go.Sl
set_option maxHeartbeats 4000000
set_option maxRecDepth 100000
set_option linter.unusedSimpArgs false
theorem closingTurns_calls (z0 z1 z2 : Int) (w : World) :
    Calls Tryz.prog 6 #[.int .i64 z0, .int .i64 z1, .int .i64 z2] w fun e w' => e = .returned (.bool true) ∧ Below w.heap.size w w' := by
  have WC0 := fun W => within_calls z0 100000 W (by omega) (by omega)
  have WC1 := fun W => within_calls z1 100000 W (by omega) (by omega)
  have WC2 := fun W => within_calls z2 101 W (by omega) (by omega)
  have p1 := within_lo z0 (n := 100000) (by omega)
  have p2 := within_hi z0 (n := 100000) (by omega)
  have q1 := within_lo z1 (n := 100000) (by omega)
  have q2 := within_hi z1 (n := 100000) (by omega)
  have k1 := within_lo z2 (n := 101) (by omega)
  have k2 := within_hi z2 (n := 101) (by omega)
  generalize within z0 100000 = p at *
  generalize within z1 100000 = q at *
  generalize within z2 101 = k at *
  obtain ⟨b, hb⟩ : ∃ b, Hid (b = p + 100000) := ⟨_, rfl⟩
  obtain ⟨m, hm⟩ : ∃ m, Hid (m = 1 + q) := ⟨_, rfl⟩
  have hb1 : 100000 ≤ b ∧ b < 200000 := by rw [hb.out]; omega
  have hm1 : 1 ≤ m ∧ m ≤ 100000 := by rw [hm.out]; omega
  have F1 := tu1 (k := k) (b := b) (m := m) (by omega) hb1 hm1
  have F2 := tu2 (k := k) (b := b) (m := m) (by omega) hb1 hm1
  unfold tu1A at F1
  unfold tu2A at F2
  obtain ⟨R, hR⟩ : ∃ R, 10000 * k = R := ⟨_, rfl⟩
  obtain ⟨bk, hbk⟩ : ∃ B, 100 * b = B := ⟨_, rfl⟩
  obtain ⟨mv, hmv⟩ : ∃ B, 100 * m = B := ⟨_, rfl⟩
  rw [hR, hbk, hmv] at F1 F2
  have e1 : 100 * p + 10000000 = bk := by rw [← hbk, hb.out]; omega
  have e2 : 100 * (q + 1) = mv := by rw [← hmv, hm.out]; omega
  have bR : 0 ≤ R ∧ R ≤ 1000000 := by omega
  have bbk : 10000000 ≤ bk ∧ bk ≤ 20000000 := by omega
  have bmv : 100 ≤ mv ∧ mv ≤ 10000000 := by omega
  have v1 : (bk - mv).tdiv 100 = b - m := by rw [← hbk, ← hmv, ← Int.mul_sub, Int.mul_comm, Int.mul_tdiv_cancel _ (by decide)]
  have v2 : R.tdiv 10000 = k := by rw [← hR, Int.mul_comm, Int.mul_tdiv_cancel _ (by decide)]
  have v3 : mv.tdiv 100 = m := by rw [← hmv, Int.mul_comm, Int.mul_tdiv_cancel _ (by decide)]
  have v4 : bk.tdiv 100 = b := by rw [← hbk, Int.mul_comm, Int.mul_tdiv_cancel _ (by decide)]
  have v5 : (bk + mv).tdiv 100 = b + m := by rw [← hbk, ← hmv, ← Int.mul_add, Int.mul_comm, Int.mul_tdiv_cancel _ (by decide)]
  obtain ⟨n1, hn1⟩ : ∃ n, b - m = n := ⟨_, rfl⟩
  obtain ⟨n2, hn2⟩ : ∃ n, b + m = n := ⟨_, rfl⟩
  rw [hn1] at v1 F1
  rw [hn2] at v5 F2
  have bb : ∀ n : Int, 0 ≤ n ∧ n ≤ 300000 → 0 ≤ n * k ∧ n * k ≤ 30000000 := fun n hn => ⟨Int.mul_nonneg hn.1 k1, by have := Int.mul_le_mul hn.2 (show k ≤ 100 by omega) k1 (by omega); omega⟩
  have b1 := bb n1 (by omega)
  have b2 := bb n2 (by omega)
  have b3 := bb m (by omega)
  have b4 := bb b (by omega)
  obtain ⟨d1, hd1⟩ : ∃ d, n1 * k = d := ⟨_, rfl⟩
  obtain ⟨d2, hd2⟩ : ∃ d, n2 * k = d := ⟨_, rfl⟩
  obtain ⟨d3, hd3⟩ : ∃ d, m * k = d := ⟨_, rfl⟩
  obtain ⟨d4, hd4⟩ : ∃ d, b * k = d := ⟨_, rfl⟩
  rw [hd1, hd3, hd4] at F1
  rw [hd2, hd3, hd4] at F2
  rw [hd1] at b1
  rw [hd2] at b2
  rw [hd3] at b3
  rw [hd4] at b4
  obtain ⟨g1, m1, t1, f1, o1, c1, l1, _, tm1⟩ := F1
  obtain ⟨g2, m2, t2, f2, o2, _, _, r2, tm2⟩ := F2
  obtain ⟨u, hu⟩ : ∃ u, Hid ((⟨oneT R, ⟨ukS, 0, bk, 0, 0, 0, 3, 0⟩, balNone, [], [⟨2, 7, mv⟩]⟩ : SArg).out = u) := ⟨_, rfl⟩
  have ho : u.clo 0 [⟨2, 7, mv⟩] = ⟨0, [⟨2, 7, mv⟩], [R], R, 0, -d3, 0, 0⟩ := (clo_out hu.out).symm.trans c1
  rw [← ho] at g2 m2 t2 f2 o2 r2 tm2
  obtain ⟨u2, hu2⟩ : ∃ u2, Hid ((⟨oneT R, ⟨ukS, 1, bk, 0, 0, 0, 3, 0⟩, u.clo 0 [⟨2, 7, mv⟩], [], []⟩ : SArg).out = u2) := ⟨_, rfl⟩
  have s1 : u.tax = d1 := by rw [← hu.out]; exact t1
  have s2 : u.df = d3 := by rw [← hu.out]; exact f1
  have s3 : u.tot = d4 := by rw [← hu.out]; exact o1
  have s4 : u.tm = -d3 := by rw [← hu.out]; exact tm1
  have s5 : u.left = [] := by rw [← hu.out]; exact l1
  have s6 : u2.tax = d2 := by rw [← hu2.out]; exact t2
  have s7 : u2.df = -d3 := by rw [← hu2.out]; exact f2
  have s8 : u2.tot = d4 := by rw [← hu2.out]; exact o2
  have s9 : u2.tm = 0 := by rw [← hu2.out]; exact tm2
  have s10 : u2.rows = [⟨2, 7, mv, -mv, 0⟩] := by rw [← hu2.out]; exact r2
  have x1 : (u.tax != d1) = false := by simp [s1]
  have x2 : (u.df != d3) = false := by simp [s2]
  have x3 : (u.tot != d4) = false := by simp [s3]
  have x4 : (u.tm != -u.df) = false := by simp [s4, s2]
  have x5 : (u2.tax == d2) = true := by simp [s6]
  have x6 : (u2.df == -u.df) = true := by simp [s7, s2]
  have x7 : (u2.tot == u.tot) = true := by simp [s8, s3]
  have x8 : (u2.tm == 0) = true := by simp [s9]
  have bdf : 0 ≤ u.df ∧ u.df ≤ 30000000 := by omega
  have hrl : Hid (u2.rows.length = 1) := by unfold Hid; rw [s10]; rfl
  have hr0 : Hid (u2.rows[0]? = some ⟨2, 7, mv, -mv, 0⟩) := by unfold Hid; rw [s10]; rfl
  have M1 := Lib.hid m1
  have M2 := Lib.hid m2
  have HV1 := Lib.hid (mv_new (c := 2) (y := 7) (M := mv) (by decide) (by omega) (by simp [money]; omega))
  have HV2 := Lib.hid (mv_back (c := 2) (y := 7) (M := mv) (by decide) (by simp [money]; omega))
  have bn1 : 0 ≤ n1 ∧ n1 ≤ 300000 := by omega
  have bn2 : 0 ≤ n2 ∧ n2 ≤ 300000 := by omega
  have y1 : wrap64 n1 = n1 := wrap64_small (by omega)
  have y2 : wrap64 n2 = n2 := wrap64_small (by omega)
  have y3 : wrap64 m = m := wrap64_small (by omega)
  have y4 : wrap64 b = b := wrap64_small (by omega)
  have y5 : wrap64 d1 = d1 := wrap64_small (by omega)
  have y6 : wrap64 d2 = d2 := wrap64_small (by omega)
  have y7 : wrap64 d3 = d3 := wrap64_small (by omega)
  have y8 : wrap64 d4 = d4 := wrap64_small (by omega)
  have y9 : wrap64 k = k := wrap64_small (by omega)
  have E0 := Env.start w
  clear s1 s2 s3 s4 s6 s7 s8 s9 s10 m1 m2 t1 f1 o1 c1 l1 tm1 t2 f2 o2 r2 tm2 hbk hmv
  replace ho := Lib.hid ho
  replace s5 := Lib.hid s5
  replace hn1 := Lib.hid hn1
  replace hn2 := Lib.hid hn2
  go_enter Tryz.func6, Tryz.ntmps6
  go_wp2_with fail
  refine (WC2 _).mono ?_
  rintro e w' ⟨rfl, rfl⟩
  go_wp2_with fail
  refine (fresh19_calls R bR _).mono ?_
  rintro e w1 ⟨ht, bt, hr, br, hv, bv, rfl, ST, SR, SV, E1⟩
  replace E1 := Env.join E0 E1
  simp at E1
  go_wp2_with fail
  refine (WC0 _).mono ?_
  rintro e w' ⟨rfl, rfl⟩
  go_wp2_with fail
  refine (WC1 _).mono ?_
  rintro e w' ⟨rfl, rfl⟩
  go_wp2_with fail
  refine (Regi.move SR E1 1 rfl 2 7 mv HV1.out).mono ?_
  rintro e w2 ⟨h2, rfl, SR2, E2⟩
  simp at E2
  go_wp2_with fail
  refine (closingNone_calls _).mono ?_
  rintro e w3 ⟨rfl, B3⟩
  replace E2 := E2.below B3
  go_wp2_with fail
  refine (Mk.ok (x := ⟨ukS, 0, bk, 0, 0, 0, 3, 0⟩) (o := balNone) (A := none) (B := none) (ca := 0) (cb := 0) (hx := Hp.none) (hs := Hp.none) E2 g1 M1 hu (E2.sub 0 rfl) (Hp.none_sub _) (Hp.none_sub _) (E2.sub 2 rfl) (E2.sub 1 rfl) ST.pt (Sl.none _ _) (Sl.none _ _) SV SR2).mono ?_
  rintro e w4 ⟨h4, hl, bl, D, cd, G, cg, Rr, cr, Q, cq, V, cv, C, cw, N, cn, rfl, _, _, sR, sQ, _, _, _, SL, E4⟩
  simp at E4
  go_upto_region 9 with (refine wpList_store_env rfl (E4.box0 [.string ⟨#[]⟩, .int .i64 0, .int .i64 0, .int .i64 0, .int .i64 0, .int .i64 0, .int .i64 0, .int .i64 0, .int .i64 0, .int .i64 0, .slice none 0 0, .slice none 0 0, .int .i64 0, .int .i64 0, .int .i64 0, .int .i64 0, .int .i64 0, .int .i64 0, .slice none 0 0, .slice none 0 0, .int .i64 0, .int .i64 0, .int .i64 0, .int .i64 0, .int .i64 0, .int .i64 0, .int .i64 0, .int .i64 0, .int .i64 0, .int .i64 0, .int .i64 0, .slice none 0 0, .slice none 0 0, .slice none 0 0, .int .i64 0, .int .i64 0, .int .i64 0, .int .i64 0, .int .i64 0, .int .i64 0, .int .i64 0] 44) 0 rfl 44 _ _ rfl 0 _ rfl rfl (by simp) (by kernel_rfl) (by simp [Value.oneCell']) ?_; intro W5 E5)
  simp at E5
  have c1 := E5.cell 0 rfl 30 rfl
  have c2 := E5.cell 0 rfl 39 rfl
  have c3 := E5.cell 0 rfl 40 rfl
  have c4 := E5.cell 0 rfl 22 rfl
  go_wp2_with fail
  refine (Regi.move SR2 E5 2 rfl 2 7 (-mv) HV2.out).mono ?_
  rintro e w6 ⟨h6, rfl, SR6, E6⟩
  simp at E6
  have ra := E6.range 0 rfl
  rw [s5.out] at SL
  go_upto_region 13 with fail
  go_wp2_with (refine wpList_load_mid rfl 37 _ rfl w4.heap.size 17 rfl _ _ (E6.rangeMid 0 rfl 17 [.int .i64 0, .slice Rr 1 cr, .slice Q u.rats.length cq, .int .i64 u.nx, .int .i64 u.lf, .int .i64 u.tm, .int .i64 u.ls, .int .i64 u.al] rfl) Tryz.underlying37 rfl (by kernel_rfl) ?_)
  refine (Mk.ok (x := ⟨ukS, 1, bk, 0, 0, 0, 3, 0⟩) (o := u.clo 0 [⟨2, 7, mv⟩]) E6 g2 M2 hu2 (E6.sub 1 rfl) (E6.sub 4 rfl) (E6.sub 4 rfl) (E6.sub 5 rfl) (E6.sub 2 rfl) ST.pt sR sQ SL SR6).mono ?_
  rintro e w7 ⟨h7, hl7, bl7, D7, cd7, G7, cg7, R7, cr7, Q7, cq7, V7, cv7, C7, cw7, N7, cn7, rfl, _, _, _, _, _, sC, _, _, E7⟩
  simp at E7
  obtain ⟨bC, oC, rfl, w1', w2', w3', w4', w5'⟩ := sC.way (E7.sub 6 rfl) hr0
  have hrl2 : ((u2.rows.length : Int) == 1) = true := by rw [hrl.out]; rfl
  have hl0 : (0 : Int) < (u2.rows.length : Int) := by rw [hrl.out]; decide
  rw [Nat.zero_mul, Nat.add_zero] at w1' w2' w3' w4' w5'
  go_wp2_with (refine wpList_store_env rfl (E7.box0 [.string ⟨#[]⟩, .int .i64 0, .int .i64 0, .int .i64 0, .int .i64 0, .int .i64 0, .int .i64 0, .int .i64 0, .int .i64 0, .int .i64 0, .slice none 0 0, .slice none 0 0, .int .i64 0, .int .i64 0, .int .i64 0, .int .i64 0, .int .i64 0, .int .i64 0, .slice none 0 0, .slice none 0 0, .int .i64 0, .int .i64 0, .int .i64 0, .int .i64 0, .int .i64 0, .int .i64 0, .int .i64 0, .int .i64 0, .int .i64 0, .int .i64 0, .int .i64 0, .slice none 0 0, .slice none 0 0, .slice none 0 0, .int .i64 0, .int .i64 0, .int .i64 0, .int .i64 0, .int .i64 0, .int .i64 0, .int .i64 0] 44) 0 rfl 44 _ _ rfl 0 _ rfl rfl (by simp) (by kernel_rfl) (by simp [Value.oneCell']) ?_; intro W8 E8; simp at E8; have d1' := E8.cell 0 rfl 30 rfl; have d2' := E8.cell 0 rfl 39 rfl; have d3' := E8.cell 0 rfl 40 rfl; have d4' := E8.cell 0 rfl 22 rfl; have d5' := E8.cell 0 rfl 18 rfl; have d6' := E8.cell 0 rfl 32 rfl; have d7' := E8.cell 1 rfl 39 rfl; have d8' := E8.cell 1 rfl 40 rfl; obtain ⟨bC2, oC2, e2, w1, w2, w3, w4, w5⟩ := sC.way (E8.sub 7 rfl) hr0; cases e2; rw [Nat.zero_mul, Nat.add_zero] at w1 w2 w3 w4 w5)
  refine (wakes19 _).mono ?_
  rintro e w9 ⟨rfl, B9⟩
  go_wp2
  go_ret
  exact ⟨rfl, (E8.below B9).low⟩
end Go.Proofs.YtnfedcaehkcffaaGreat
end
