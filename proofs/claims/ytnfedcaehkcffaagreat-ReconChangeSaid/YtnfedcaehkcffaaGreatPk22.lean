/- Walks and plain facts that the laws of this seat share, part 22: contracts of functions, each said at its theorem. -/
import Derived.Test.YtnfedcaehkcffaaGreatPk21
set_option linter.all false
section
/- The items of a reconciliation, plain. No program is named here. -/
namespace Go.Sl
open Go Go.RowKit
def SArg.itemL (a : SArg) : List SItem := [⟨1, a.i1⟩, ⟨2, a.i2⟩, ⟨3, a.dif⟩, ⟨4, a.i4⟩, ⟨5, a.am⟩, ⟨6, a.i6⟩, ⟨7, a.x.up⟩, ⟨8, a.i8⟩]
theorem OkA.bds {a : SArg} (k : OkA a) : (-200000000000 ≤ a.vec.sum ∧ a.vec.sum ≤ 200000000000) ∧ (-200000000000 ≤ curNew a.inc ∧ curNew a.inc ≤ 200000000000) ∧ (-100000000000 ≤ a.ra ∧ a.ra ≤ 100000000000) ∧ (-100000000000 ≤ a.lr ∧ a.lr ≤ 100000000000) ∧ (-100000000000 ≤ a.am ∧ a.am ≤ 100000000000) ∧
    (-100000000000 ≤ a.x.up ∧ a.x.up ≤ 100000000000) ∧ (-100000000000 ≤ a.tot ∧ a.tot ≤ 100000000000) := by
  obtain ⟨h1, _, _, _, _, h6⟩ := makE_zero k.z
  have hb := curVec_bd k.v a.inc a.x.cap a.yr
  have hv : a.vec = curVec a.v a.inc a.x.cap a.yr := rfl
  rw [← hv] at hb
  have hi : -100000000000 ≤ a.inc ∧ a.inc ≤ 100000000000 := incV_bd _ _ _
  have hc := costE_zero h6
  simp only [SArg.costs, List.all_cons, List.all_nil, Bool.and_eq_true, money, decide_eq_true_eq] at hc
  have hra := (remMo_money (rows := a.rows) (os := a.was) (ns := a.now)).2
  have hup : money a.x.up = true := by
    unfold SArg.argOk at h1
    simp only [Bool.and_eq_true] at h1
    exact h1.2.2
  simp only [money, decide_eq_true_eq] at hra hup
  refine ⟨?_, ?_, hra, hc.2.1, hc.2.2.1, hup, hc.2.2.2.2.2.2.2.2.1⟩
  · by_cases h0 : 0 < a.inc
    · have := hb.2.1 h0; omega
    · have := hb.2.2 h0; omega
  · unfold curNew; split <;> omega
end Go.Sl
end
section
/- recon in a body's own memory; law21.wakes. -/
namespace Go.Sl
open Go Go.RowKit
section
variable {P : Program} {ops : Array Oper} {rest : List Oper} {op : Oper} {a : Act} {Q : Exit → Act → World → Prop} {w0 w : World} {l : List Hp} {b : Nat} {cs : List Value} {T : TypeId}
theorem wpList_load_env (hgd : Region.wanted op (yielded ops a.tmps) = true) (E : Env w0 w l) (i : Nat) (hi : l[i]? = some (Hp.box b cs T)) (ty : TypeId) (x : Operand) (ho : op.op = .load ty x) (hx : a.eval x = .pointer (some ⟨b, 0, none⟩))
    {d : TypeDesc} (hu : P.underlying ty = some d) (hd : d.isRow = true) (hs : (P.info? ty).map (·.size) = some cs.length) (h : wpList P ops Q rest (a.put op.dst (.agg cs.toArray)) w) : wpList P ops Q (op :: rest) a w := by
  simp only [wpList, hgd, if_true]
  exact .inl (wp_load_mid ty x ho b 0 hx cs d (E.range i hi) hu hd hs h)
end
end Go.Sl
namespace Go.Proofs.YtnfedcaehkcffaaGreat
open Go.RowKit Go.Sl
set_option maxHeartbeats 2000000
set_option maxRecDepth 100000
set_option linter.unusedSimpArgs false
section
variable {w0 w : World} {L : List Hp} {t : List SRate} {x : SInp} {o : SBal} {v r : List STri} {u : SOut} {h : Hp} {D G R Q V C N : Option Addr} {cd cg cr cq cv cw cn : Nat} {ms : List SItem}
theorem Mk.items (k : OkA ⟨t, x, o, v, r⟩) (hu : Hid ((⟨t, x, o, v, r⟩ : SArg).out = u)) (E : Env w0 w L) (hs : h.sub w) (sC : Sl kWay h C cw u.rows) (sN : Sl kInt h N cn u.now) (hm : Hid ((⟨t, x, o, v, r⟩ : SArg).itemL = ms)) :
    Calls Tryz.prog 26 #[.agg #[.string x.j, .int .i64 x.per, .int .i64 x.book, .int .i64 x.perm, .int .i64 x.judge, .int .i64 x.cap, .int .i64 x.life, .int .i64 x.up, .int .i64 u.rt, .int .i64 o.per, .slice D o.xs.length cd, .slice G o.rs.length cg, .int .i64 o.nx, .int .i64 o.lf, .int .i64 o.tm, .int .i64 o.ls, .int .i64 o.al, .int .i64 x.per, .slice R r.length cr, .slice Q u.rats.length cq, .int .i64 u.nx, .int .i64 u.lf, .int .i64 u.tm, .int .i64 u.ls, .int .i64 u.al, .int .i64 u.inc, .int .i64 u.gon, .int .i64 u.usd, .int .i64 u.new, .int .i64 u.txb, .int .i64 u.tax, .slice V u.vec.length cv, .slice C u.rows.length cw, .slice N u.now.length cn, .int .i64 u.mo, .int .i64 u.ra, .int .i64 u.lm, .int .i64 u.lr, .int .i64 u.am, .int .i64 u.df, .int .i64 u.tot]] w fun e w' => ∃ D cd hd, e = .returned (.slice D 8 cd) ∧ Ow kItem hd D cd ms ∧ Env w0 w' (L ++ [hd]) := by
  obtain rfl := hu.out
  obtain rfl := hm.out
  obtain ⟨b1, b2, b3, b4, b5, b6, b7⟩ := k.bds
  have g := k.toGoodA
  exact (recItems_calls x.book x.perm x.up (⟨t, x, o, v, r⟩ : SArg).rt (⟨t, x, o, v, r⟩ : SArg).nx (vGone v (⟨t, x, o, v, r⟩ : SArg).yr) (⟨t, x, o, v, r⟩ : SArg).vec.sum (curNew (⟨t, x, o, v, r⟩ : SArg).inc) (⟨t, x, o, v, r⟩ : SArg).ra (⟨t, x, o, v, r⟩ : SArg).lr (⟨t, x, o, v, r⟩ : SArg).am (⟨t, x, o, v, r⟩ : SArg).tot _ _ _ _ _ _ _ _ _ _ _ _ _ _ _ _ _ _ _ _ _ _ _ _ _ _ _ C N cw cn (⟨t, x, o, v, r⟩ : SArg).rows (⟨t, x, o, v, r⟩ : SArg).now h h w hs hs sC sN g.now_len g.rows_len b1 b2 b3 b4 b5 b6 b7 rfl rfl).mono fun _ _ ⟨D, cd, hd, he, ho, F⟩ => ⟨D, cd, hd, he, ho, E.join F⟩
end
theorem wk21 : (⟨oneT 250000, ⟨ukS, 0, 100, 20, 0, 0, 0, 0⟩, balNone, [], []⟩ : SArg).makE = 0 ∧ (⟨oneT 250000, ⟨ukS, 0, 100, 20, 0, 0, 0, 0⟩, balNone, [], []⟩ : SArg).itemL = [⟨1, 25⟩, ⟨2, 5⟩, ⟨3, 0⟩, ⟨4, 0⟩, ⟨5, 0⟩, ⟨6, 0⟩, ⟨7, 0⟩, ⟨8, 0⟩] ∧ (⟨oneT 250000, ⟨ukS, 0, 100, 20, 0, 0, 0, 0⟩, balNone, [], []⟩ : SArg).rows = [] :=
  ⟨by decide +kernel, by rfl, by rfl⟩
theorem wakes21 (w : World) : Calls Tryz.prog 28 #[] w fun e w' => e = .returned (.bool true) ∧ Below w.heap.size w w' := by
  obtain ⟨hm, hi, hr⟩ := wk21
  have g := wk_good (R := 250000) (by decide) ⟨ukS, 0, 100, 20, 0, 0, 0, 0⟩
  have kk : OkA ⟨oneT 250000, ⟨ukS, 0, 100, 20, 0, 0, 0, 0⟩, balNone, [], []⟩ := ⟨g, hm⟩
  obtain ⟨q1, q2, _⟩ := oneT_good (R := 250000) (by decide)
  have H1 := Lib.hid q1
  have H2 := Lib.hid q2
  have HM := Lib.hid hm
  have HI := Lib.hid hi
  obtain ⟨u, hu⟩ : ∃ u, Hid ((⟨oneT 250000, ⟨ukS, 0, 100, 20, 0, 0, 0, 0⟩, balNone, [], []⟩ : SArg).out = u) := ⟨_, rfl⟩
  have hrw : Hid (u.rows.length = 0) := by
    have : u.rows = [] := by rw [← hu.out]; exact hr
    unfold Hid; rw [this]; rfl
  clear hm hi hr q1 q2
  have E0 := Env.start w
  go_enter Tryz.func28, Tryz.ntmps28
  go_wp2_with fail
  refine (Tab.new E0).mono ?_
  rintro e w1 ⟨h1, b1, rfl, S1, E1⟩
  try simp at E1
  go_wp2_with fail
  refine (Tab.add S1 E1 0 rfl ukS 0 250000 0 ⟨H1.out, H2.out⟩).mono ?_
  rintro e w4 ⟨h4, rfl, S4, E4⟩
  simp at E4
  go_wp2_with fail
  refine (closingNone_calls _).mono ?_
  rintro e w5 ⟨rfl, B5⟩
  have E5 := E4.below B5
  go_wp2_with fail
  refine (Vnt.new E5).mono ?_
  rintro e w6 ⟨h6, b6, rfl, S6, E6⟩
  try simp at E6
  go_wp2_with fail
  refine (Regi.new E6).mono ?_
  rintro e w7 ⟨h7, b7, rfl, S7, E7⟩
  try simp at E7
  go_wp2_with fail
  refine (Mk.ok (o := balNone) (A := none) (B := none) (ca := 0) (cb := 0) (hx := Hp.none) (hs := Hp.none) E7 g HM hu (E7.sub 0 rfl) (Hp.none_sub _) (Hp.none_sub _) (E7.sub 1 rfl) (E7.sub 2 rfl) S4.pt (Sl.none _ _) (Sl.none _ _) S6 S7).mono ?_
  rintro e w8 ⟨h8, hl, bl, D, cd, G, cg, R, cr, Q, cq, V, cv, C, cw, N, cn, rfl, _, _, _, _, _, sC, sN, SL, E8⟩
  go_upto_region 5 with (refine wpList_store_env rfl (E8.box0 [.string ⟨#[]⟩, .int .i64 0, .int .i64 0, .int .i64 0, .int .i64 0, .int .i64 0, .int .i64 0, .int .i64 0, .int .i64 0, .int .i64 0, .slice none 0 0, .slice none 0 0, .int .i64 0, .int .i64 0, .int .i64 0, .int .i64 0, .int .i64 0, .int .i64 0, .slice none 0 0, .slice none 0 0, .int .i64 0, .int .i64 0, .int .i64 0, .int .i64 0, .int .i64 0, .int .i64 0, .int .i64 0, .int .i64 0, .int .i64 0, .int .i64 0, .int .i64 0, .slice none 0 0, .slice none 0 0, .slice none 0 0, .int .i64 0, .int .i64 0, .int .i64 0, .int .i64 0, .int .i64 0, .int .i64 0, .int .i64 0] 44) 0 rfl 44 _ _ rfl 0 _ rfl rfl (by simp) (by kernel_rfl) (by simp [Value.oneCell']) ?_; intro W9 E9)
  simp at E9
  go_wp2_with (refine wpList_load_env (by rfl) E9 0 rfl 44 _ rfl rfl Tryz.underlying44 rfl (by kernel_rfl) ?_)
  refine (Mk.items kk hu E9 (E9.sub 4 rfl) sC sN HI).mono ?_
  rintro e w10 ⟨D', cd', hd, rfl, oi, E10⟩
  simp at E10
  obtain ⟨bi, ob, rfl, x0, y0⟩ := oi.sl.item (E10.sub 6 rfl) (i := 0) (x := ⟨1, 25⟩) (Lib.hid rfl)
  obtain ⟨bi1, ob1, e1, x1, y1⟩ := oi.sl.item (E10.sub 6 rfl) (i := 1) (x := ⟨2, 5⟩) (Lib.hid rfl)
  cases e1
  obtain ⟨bi7, ob7, e7, x7, y7⟩ := oi.sl.item (E10.sub 6 rfl) (i := 7) (x := ⟨8, 0⟩) (Lib.hid rfl)
  cases e7
  simp at x0 y0 x1 y1 x7 y7
  have SC := fun (W : World) (hW : hd.sub W) => recSum_calls (some ⟨bi, ob, none⟩) cd' _ hd W hW oi.sl (by simp) (by simp)
  have t1 : ((8 + 4 * (u.rows.length : Int)) == 8) = true := by rw [hrw.out]; rfl
  go_wp2_with fail
  refine (SC _ (E10.sub 6 rfl)).mono ?_
  rintro e w11 ⟨rfl, B11⟩
  have E11 := E10.below B11
  go_wp2_with (refine wpList_load_env (by rfl) E11 0 rfl 44 _ rfl rfl Tryz.underlying44 rfl (by kernel_rfl) ?_)
  refine (recTerms_calls C cw u.rows.length _ _ _ _ _ _ _ _ _ _ _ _ _ _ _ _ _ _ _ _ _ _ _ _ _ _ _ _ _ _ _ _ _ _ _ _ _ _ _ _ _ (by rw [hrw.out]; decide)).mono ?_
  rintro e w12 ⟨rfl, B12⟩
  go_wp2
  go_ret
  exact ⟨rfl, (E11.below B12).low⟩
end Go.Proofs.YtnfedcaehkcffaaGreat
end
section
/- What expires, an allowance that comes: plain. No program is named here. -/
namespace Go.Sl
open Go Go.RowKit
theorem ex_v {n : Int} (hn : 1 ≤ n ∧ n ≤ 1000) : GoodV [⟨0, 0, 400 * n⟩] := by
  refine ⟨List.pairwise_singleton _ _, ?_, ?_, ?_, ?_⟩
  all_goals first
    | (intro b hb; simp at hb; subst hb; first | (show vOk 0 0 = true; decide) | (show 1 ≤ 400 * n; omega))
    | (simp [sumC]; omega)
    | simp

def ex1A (n : Int) : SArg := ⟨oneT 250000, ⟨ukS, 0, -(400 * n), 0, 0, 0, 0, 0⟩, balNone, [], []⟩
theorem ex1 {n : Int} (hn : 1 ≤ n ∧ n ≤ 1000) :
    OkA (ex1A n) ∧ (ex1A n).tot = -(100 * n) ∧ (ex1A n).clo = (⟨0, [], [], 250000, 400 * n, 0, 100 * n, 0⟩ : SBal) ∧ (ex1A n).left = [⟨0, 0, 400 * n⟩] ∧ (ex1A n).itemL = [⟨1, -(100 * n)⟩, ⟨2, 0⟩, ⟨3, 0⟩, ⟨4, 0⟩, ⟨5, 0⟩, ⟨6, 0⟩, ⟨7, 0⟩, ⟨8, 0⟩] := by
  have hA : vAddE [] 0 0 (400 * n) = 0 := by unfold vAddE; simp [vOk, money, sumC]; omega
  obtain ⟨h1, h2, h3, h4, h5⟩ := one_all (R := 250000) (p := 0) (by decide)
  have g : GoodA (ex1A n) := ⟨(oneT_good (by decide)).2.2, GoodB.none, GoodV.nil, GoodR.nil⟩
  obtain ⟨n1, n2, n3, n4, n5, n6, n7, n8, n9, n10, n11⟩ := no_rows (a := ex1A n) rfl rfl rfl
  have hI : incOk (-(400 * n)) (0) 0 = true := by simp [incOk, money]; try omega
  have e_rt : (ex1A n).rt = 250000 := h1
  have e_nx : (ex1A n).nx = 250000 := h4
  have e_yr : (ex1A n).yr = 0 := rfl
  have e_inc : (ex1A n).inc = -(400 * n) := by
    show incV (-(400 * n)) (0) (ex1A n).mov = _
    rw [n2]; unfold incV; rw [if_pos hI]; try omega
  have e_vec : (ex1A n).vec = [] := by
    show curVec [] (ex1A n).inc _ (ex1A n).yr = []
    rw [e_inc, e_yr]; unfold curVec; rw [if_neg (by omega)]
  have e_left : (ex1A n).left = [⟨0, 0, 400 * n⟩] := by
    show curNext [] (ex1A n).inc _ _ (ex1A n).yr = _
    rw [e_inc, e_yr]; unfold curNext
    rw [if_neg (by omega), if_pos (by omega), Int.neg_neg]
    show vAdd [] 0 (0 + 0) (400 * n) = _
    unfold vAdd
    rw [show (0 : Int) + 0 = 0 from rfl, if_pos hA]
    show putV [] 0 0 (0 + 400 * n) = _
    rw [Int.zero_add]; rfl
  have e_gon : vGone (ex1A n).v (ex1A n).yr = 0 := by
    show vGone [] 0 = _
    simp [vGone, overV, sumC]
  have e_new : curNew (ex1A n).inc = 400 * n := by
    rw [e_inc]; unfold curNew; (try split) <;> (try omega)
  have e_lf : (ex1A n).lf = 400 * n := by unfold SArg.lf; rw [e_left]; simp [sumC]
  have e_txb : (ex1A n).txb = 0 := by
    show (ex1A n).inc - (ex1A n).vec.sum + curNew (ex1A n).inc = _
    rw [e_new, e_inc, e_vec]; simp; try omega
  have e_tax : (ex1A n).tax = 0 := by
    unfold SArg.tax; rw [e_txb, e_rt]
    have h := ofVal_half (n := 0) (r := 250000) (by omega) (by omega) (by omega) (by omega)
    omega
  have s1 : shareE (400 * n) 250000 = 0 := by unfold shareE; rw [if_pos]; simp [money, rightRate]; try omega
  have e_ls : (ex1A n).ls = 100 * n := by
    unfold SArg.ls; rw [e_lf, e_nx]; unfold shareV; rw [if_pos s1]
    have h := ofVal_half (n := 400 * n) (r := 250000) (by omega) (by omega) (by omega) (by omega)
    omega
  have s2 : shareE (100 * n) (0) = 0 := by unfold shareE; rw [if_pos]; simp [money, rightRate]; try omega
  have e_al : (ex1A n).al = 0 := by
    show -shareV (ex1A n).ls (0) = _
    rw [e_ls]; unfold shareV; rw [if_pos s2]
    first
      | (rw [ofVal_zero]; rfl)
      | (rw [ofVal_100 (by omega) (by omega)])
      | (have h := ofVal_half (n := 100 * n) (r := 0) (by omega) (by omega) (by omega) (by omega)
         omega)
  have e_lr : (ex1A n).lr = 0 := by
    show ofVal (0) (0) - ofVal (0) (ex1A n).nx = 0
    rw [e_nx]; first | omega | (rw [ofVal_zero, ofVal_zero]; rfl)
  have e_lm : (ex1A n).lm = -(100 * n) := by
    show 0 - (ex1A n).ls - (ex1A n).lr = _
    rw [e_ls, e_lr]; omega
  have e_am : (ex1A n).am = 0 := by
    show 0 - (ex1A n).al = _
    rw [e_al]; omega
  have e_df : (ex1A n).df = -(100 * n) := by
    unfold SArg.df; rw [n7, n8, e_lm, e_lr, e_am]; omega
  have e_tot : (ex1A n).tot = -(100 * n) := by
    show (ex1A n).tax + (ex1A n).df + (0) = _
    rw [e_tax, e_df]; omega
  have i1 : (ex1A n).i1 = ofVal (-(400 * n)) 250000 := by show ofVal (-(400 * n)) (ex1A n).rt = _; rw [e_rt]
  have i2 : (ex1A n).i2 = ofVal (0) 250000 := by show ofVal (0) (ex1A n).rt = _; rw [e_rt]
  have i6 : (ex1A n).i6 = ofVal (0) 250000 := by show ofVal (vGone (ex1A n).v (ex1A n).yr) (ex1A n).nx = _; rw [e_gon, e_nx]
  have i4 : (ex1A n).i4 = 0 := by unfold SArg.i4; rw [n8, e_lr]; rfl
  have i3 : (ex1A n).dif = 0 := by
    show apV ((ex1A n).vec.sum - curNew (ex1A n).inc) (ex1A n).nx (ex1A n).rt + difS _ (ex1A n).rows _ = 0
    rw [n1, e_nx, e_rt]; unfold apV difS; omega
  have v1 := ofVal_half (n := -(400 * n)) (r := 250000) (by omega) (by omega) (by omega) (by omega)
  have v2 := ofVal_half (n := 0) (r := 250000) (by omega) (by omega) (by omega) (by omega)
  have v6 := ofVal_half (n := 0) (r := 250000) (by omega) (by omega) (by omega) (by omega)
  have i8 : (ex1A n).i8 = (ex1A n).tot - ((ex1A n).i1 + (ex1A n).i2 + (ex1A n).dif + (ex1A n).i4 + (ex1A n).am + (ex1A n).i6 + (0)) := rfl
  have m1 : (ex1A n).argOk = true := by
    show (perOk 0 && (rightRate (0) && money (0))) = true
    simp [perOk, rightRate, money]; try omega
  have m2 : (ex1A n).knownE = 0 := by
    unfold SArg.knownE
    rw [if_neg (by rw [show rateB (ex1A n).t (ex1A n).x.j (ex1A n).yr (ex1A n).x.per = true from h2]; decide), if_neg (by rw [show nextE (ex1A n).t (ex1A n).x.j (ex1A n).x.per = 0 from h3]; decide)]
    exact n11
  have m3 : (ex1A n).taxE = 0 := by
    show curE [] (-(400 * n)) (0) (ex1A n).mov 0 0 (ex1A n).yr (ex1A n).rt = 0
    rw [n2, e_rt, e_yr]
    unfold curE
    have hv : incV (-(400 * n)) (0) 0 = -(400 * n) := by unfold incV; rw [if_pos hI]; try omega
    rw [if_neg (by decide), if_neg (by rw [hI]; decide), hv]
    rw [if_pos (by omega), Int.neg_neg]; exact hA
  have m4 : (ex1A n).balE = 0 := by
    unfold SArg.balE
    rw [if_neg (by rw [n9]; decide), e_lf, e_nx, if_neg (by rw [s1]; decide), e_ls]
    exact s2
  have m6 : (ex1A n).costE = 0 := by
    unfold SArg.costE SArg.costs
    rw [e_lm, e_lr, e_am, e_tax, n4, e_ls, e_al, e_df, e_tot]
    rw [if_pos]
    show List.all [_, 0, _, _ + (0), 0 - 0, _ - (0), _ - (0), _, _] money = true
    simp only [List.all_cons, List.all_nil, money, Bool.and_true, Bool.and_eq_true, decide_eq_true_eq]
    omega
  have hz : (ex1A n).makE = 0 := by
    unfold SArg.makE
    rw [if_neg (by rw [m1]; decide), if_neg (by rw [m2]; decide), if_neg (by rw [m3]; decide), if_neg (by rw [m4]; decide), if_neg (by rw [n10]; decide), m6]
  refine ⟨⟨g, hz⟩, e_tot, by unfold SArg.clo; rw [n3, e_nx, e_lf, n4, e_ls, e_al]; rfl, e_left, ?_⟩
  unfold SArg.itemL
  rw [i8, i3, i4, e_am, e_tot, i1, i2, i6]
  simp only [List.cons.injEq, SItem.mk.injEq, true_and, and_true]
  refine ⟨?_, ?_, ?_, ?_, ?_⟩ <;> first | omega | rfl

def ex2A (n m up j : Int) : SArg := ⟨oneT 250000, ⟨ukS, 4, 400 * n, 100 * m, 10000 * j, 0, 0, up⟩, ⟨0, [], [], 250000, 400 * n, 0, 100 * n, 0⟩, [⟨0, 0, 400 * n⟩], []⟩
theorem ex2 {n m up j : Int} (hn : 1 ≤ n ∧ n ≤ 1000) (hm : 0 ≤ m ∧ m < 1000) (hu : -1000 ≤ up ∧ up ≤ 1000) (hj : 0 ≤ j ∧ j ≤ 100) :
    OkA (ex2A n m up j) ∧ (ex2A n m up j).tot = 200 * n + 25 * m + up ∧ (ex2A n m up j).clo = (⟨4, [], [], 250000, 0, 0, 0, 0⟩ : SBal) ∧ (ex2A n m up j).left = [] ∧ (ex2A n m up j).itemL = [⟨1, 100 * n⟩, ⟨2, 25 * m⟩, ⟨3, 0⟩, ⟨4, 0⟩, ⟨5, 0⟩, ⟨6, 100 * n⟩, ⟨7, up⟩, ⟨8, 0⟩] := by
  have hx : vExp [⟨0, 0, 400 * n⟩] 1 = [] := by simp [vExp, overV]
  obtain ⟨h1, h2, h3, h4, h5⟩ := one_all (R := 250000) (p := 4) (by decide)
  have g : GoodA (ex2A n m up j) := ⟨(oneT_good (by decide)).2.2, (show GoodB ⟨0, [], [], 250000, 400 * n, 0, 100 * n, 0⟩ from ⟨GoodR.nil, rfl, (by simp), rfl, (show (0 : Int) ≤ 400 * n ∧ 400 * n ≤ 100000000000 by omega), rfl, (show (0 : Int) ≤ 100 * n ∧ 100 * n ≤ 100000000000 by omega), (show (-100000000000 : Int) ≤ 0 ∧ (0 : Int) ≤ 0 by omega)⟩), ex_v (by omega), GoodR.nil⟩
  obtain ⟨n1, n2, n3, n4, n5, n6, n7, n8, n9, n10, n11⟩ := no_rows (a := ex2A n m up j) rfl rfl rfl
  have hI : incOk (400 * n) (100 * m) 0 = true := by simp [incOk, money]; try omega
  have e_rt : (ex2A n m up j).rt = 250000 := h1
  have e_nx : (ex2A n m up j).nx = 250000 := h4
  have e_yr : (ex2A n m up j).yr = 1 := rfl
  have e_inc : (ex2A n m up j).inc = 400 * n + 100 * m := by
    show incV (400 * n) (100 * m) (ex2A n m up j).mov = _
    rw [n2]; unfold incV; rw [if_pos hI]; try omega
  have e_vec : (ex2A n m up j).vec = [] := by
    show curVec [⟨0, 0, 400 * n⟩] (ex2A n m up j).inc _ (ex2A n m up j).yr = []
    rw [e_inc, e_yr]; unfold curVec; rw [if_pos (by omega), hx]; rfl
  have e_left : (ex2A n m up j).left = [] := by
    show curNext [⟨0, 0, 400 * n⟩] (ex2A n m up j).inc _ _ (ex2A n m up j).yr = _
    rw [e_inc, e_yr]; unfold curNext; rw [if_pos (by omega), hx]; unfold vTake; split <;> simp
  have e_gon : vGone (ex2A n m up j).v (ex2A n m up j).yr = 400 * n := by
    show vGone [⟨0, 0, 400 * n⟩] 1 = _
    simp [vGone, overV, sumC]
  have e_new : curNew (ex2A n m up j).inc = 0 := by
    rw [e_inc]; unfold curNew; (try split) <;> (try omega)
  have e_lf : (ex2A n m up j).lf = 0 := by unfold SArg.lf; rw [e_left]; simp [sumC]
  have e_txb : (ex2A n m up j).txb = 400 * n + 100 * m := by
    show (ex2A n m up j).inc - (ex2A n m up j).vec.sum + curNew (ex2A n m up j).inc = _
    rw [e_new, e_inc, e_vec]; simp; try omega
  have e_tax : (ex2A n m up j).tax = 100 * n + 25 * m := by
    unfold SArg.tax; rw [e_txb, e_rt]
    have h := ofVal_half (n := 400 * n + 100 * m) (r := 250000) (by omega) (by omega) (by omega) (by omega)
    omega
  have s1 : shareE (0) 250000 = 0 := by unfold shareE; rw [if_pos]; simp [money, rightRate]; try omega
  have e_ls : (ex2A n m up j).ls = 0 := by
    unfold SArg.ls; rw [e_lf, e_nx]; unfold shareV; rw [if_pos s1]
    have h := ofVal_half (n := 0) (r := 250000) (by omega) (by omega) (by omega) (by omega)
    omega
  have s2 : shareE (0) (10000 * j) = 0 := by unfold shareE; rw [if_pos]; simp [money, rightRate]; try omega
  have e_al : (ex2A n m up j).al = 0 := by
    show -shareV (ex2A n m up j).ls (10000 * j) = _
    rw [e_ls]; unfold shareV; rw [if_pos s2]
    first
      | (rw [ofVal_zero]; rfl)
      | (rw [ofVal_100 (by omega) (by omega)])
      | (have h := ofVal_half (n := 0) (r := 10000 * j) (by omega) (by omega) (by omega) (by omega)
         omega)
  have e_lr : (ex2A n m up j).lr = 0 := by
    show ofVal (400 * n) (250000) - ofVal (400 * n) (ex2A n m up j).nx = 0
    rw [e_nx]; first | omega | (rw [ofVal_zero, ofVal_zero]; rfl)
  have e_lm : (ex2A n m up j).lm = 100 * n := by
    show 100 * n - (ex2A n m up j).ls - (ex2A n m up j).lr = _
    rw [e_ls, e_lr]; omega
  have e_am : (ex2A n m up j).am = 0 := by
    show 0 - (ex2A n m up j).al = _
    rw [e_al]; omega
  have e_df : (ex2A n m up j).df = 100 * n := by
    unfold SArg.df; rw [n7, n8, e_lm, e_lr, e_am]; omega
  have e_tot : (ex2A n m up j).tot = 200 * n + 25 * m + up := by
    show (ex2A n m up j).tax + (ex2A n m up j).df + (up) = _
    rw [e_tax, e_df]; omega
  have i1 : (ex2A n m up j).i1 = ofVal (400 * n) 250000 := by show ofVal (400 * n) (ex2A n m up j).rt = _; rw [e_rt]
  have i2 : (ex2A n m up j).i2 = ofVal (100 * m) 250000 := by show ofVal (100 * m) (ex2A n m up j).rt = _; rw [e_rt]
  have i6 : (ex2A n m up j).i6 = ofVal (400 * n) 250000 := by show ofVal (vGone (ex2A n m up j).v (ex2A n m up j).yr) (ex2A n m up j).nx = _; rw [e_gon, e_nx]
  have i4 : (ex2A n m up j).i4 = 0 := by unfold SArg.i4; rw [n8, e_lr]; rfl
  have i3 : (ex2A n m up j).dif = 0 := by
    show apV ((ex2A n m up j).vec.sum - curNew (ex2A n m up j).inc) (ex2A n m up j).nx (ex2A n m up j).rt + difS _ (ex2A n m up j).rows _ = 0
    rw [n1, e_nx, e_rt]; unfold apV difS; omega
  have v1 := ofVal_half (n := 400 * n) (r := 250000) (by omega) (by omega) (by omega) (by omega)
  have v2 := ofVal_half (n := 100 * m) (r := 250000) (by omega) (by omega) (by omega) (by omega)
  have v6 := ofVal_half (n := 400 * n) (r := 250000) (by omega) (by omega) (by omega) (by omega)
  have i8 : (ex2A n m up j).i8 = (ex2A n m up j).tot - ((ex2A n m up j).i1 + (ex2A n m up j).i2 + (ex2A n m up j).dif + (ex2A n m up j).i4 + (ex2A n m up j).am + (ex2A n m up j).i6 + (up)) := rfl
  have m1 : (ex2A n m up j).argOk = true := by
    show (perOk 4 && (rightRate (10000 * j) && money (up))) = true
    simp [perOk, rightRate, money]; try omega
  have m2 : (ex2A n m up j).knownE = 0 := by
    unfold SArg.knownE
    rw [if_neg (by rw [show rateB (ex2A n m up j).t (ex2A n m up j).x.j (ex2A n m up j).yr (ex2A n m up j).x.per = true from h2]; decide), if_neg (by rw [show nextE (ex2A n m up j).t (ex2A n m up j).x.j (ex2A n m up j).x.per = 0 from h3]; decide)]
    exact n11
  have m3 : (ex2A n m up j).taxE = 0 := by
    show curE [⟨0, 0, 400 * n⟩] (400 * n) (100 * m) (ex2A n m up j).mov 0 0 (ex2A n m up j).yr (ex2A n m up j).rt = 0
    rw [n2, e_rt, e_yr]
    unfold curE
    have hv : incV (400 * n) (100 * m) 0 = 400 * n + 100 * m := by unfold incV; rw [if_pos hI]; try omega
    rw [if_neg (by decide), if_neg (by rw [hI]; decide), hv]
    rw [if_neg (by omega)]
  have m4 : (ex2A n m up j).balE = 0 := by
    unfold SArg.balE
    rw [if_neg (by rw [n9]; decide), e_lf, e_nx, if_neg (by rw [s1]; decide), e_ls]
    exact s2
  have m6 : (ex2A n m up j).costE = 0 := by
    unfold SArg.costE SArg.costs
    rw [e_lm, e_lr, e_am, e_tax, n4, e_ls, e_al, e_df, e_tot]
    rw [if_pos]
    show List.all [_, 0, _, _ + (up), 0 - 0, _ - (100 * n), _ - (0), _, _] money = true
    simp only [List.all_cons, List.all_nil, money, Bool.and_true, Bool.and_eq_true, decide_eq_true_eq]
    omega
  have hz : (ex2A n m up j).makE = 0 := by
    unfold SArg.makE
    rw [if_neg (by rw [m1]; decide), if_neg (by rw [m2]; decide), if_neg (by rw [m3]; decide), if_neg (by rw [m4]; decide), if_neg (by rw [n10]; decide), m6]
  refine ⟨⟨g, hz⟩, e_tot, by unfold SArg.clo; rw [n3, e_nx, e_lf, n4, e_ls, e_al]; rfl, e_left, ?_⟩
  unfold SArg.itemL
  rw [i8, i3, i4, e_am, e_tot, i1, i2, i6]
  simp only [List.cons.injEq, SItem.mk.injEq, true_and, and_true]
  refine ⟨?_, ?_, ?_, ?_, ?_⟩ <;> first | omega | rfl

def ex3A (n up j : Int) : SArg := ⟨oneT 250000, ⟨ukS, 1, 0, 0, 10000 * j, 0, 0, up⟩, ⟨0, [], [], 250000, 400 * n, 0, 100 * n, 0⟩, [⟨0, 0, 400 * n⟩], []⟩
theorem ex3 {n up j : Int} (hn : 1 ≤ n ∧ n ≤ 1000) (hu : -1000 ≤ up ∧ up ≤ 1000) (hj : 0 ≤ j ∧ j ≤ 100) :
    OkA (ex3A n up j) ∧ (ex3A n up j).tot = n * j + up ∧ (ex3A n up j).clo = (⟨1, [], [], 250000, 400 * n, 0, 100 * n, -(n * j)⟩ : SBal) ∧ (ex3A n up j).left = [⟨0, 0, 400 * n⟩] ∧ (ex3A n up j).itemL = [⟨1, 0⟩, ⟨2, 0⟩, ⟨3, 0⟩, ⟨4, 0⟩, ⟨5, n * j⟩, ⟨6, 0⟩, ⟨7, up⟩, ⟨8, 0⟩] := by
  have q1 : 0 ≤ n * j := Int.mul_nonneg (by omega) hj.1
  have q2 : n * j ≤ n * 100 := Int.mul_le_mul_of_nonneg_left hj.2 (by omega)
  have hx : vExp [⟨0, 0, 400 * n⟩] 0 = [⟨0, 0, 400 * n⟩] := by simp [vExp, overV]
  obtain ⟨h1, h2, h3, h4, h5⟩ := one_all (R := 250000) (p := 1) (by decide)
  have g : GoodA (ex3A n up j) := ⟨(oneT_good (by decide)).2.2, (show GoodB ⟨0, [], [], 250000, 400 * n, 0, 100 * n, 0⟩ from ⟨GoodR.nil, rfl, (by simp), rfl, (show (0 : Int) ≤ 400 * n ∧ 400 * n ≤ 100000000000 by omega), rfl, (show (0 : Int) ≤ 100 * n ∧ 100 * n ≤ 100000000000 by omega), (show (-100000000000 : Int) ≤ 0 ∧ (0 : Int) ≤ 0 by omega)⟩), ex_v (by omega), GoodR.nil⟩
  obtain ⟨n1, n2, n3, n4, n5, n6, n7, n8, n9, n10, n11⟩ := no_rows (a := ex3A n up j) rfl rfl rfl
  have hI : incOk (0) (0) 0 = true := by simp [incOk, money]; try omega
  have e_rt : (ex3A n up j).rt = 250000 := h1
  have e_nx : (ex3A n up j).nx = 250000 := h4
  have e_yr : (ex3A n up j).yr = 0 := rfl
  have e_inc : (ex3A n up j).inc = 0 := by
    show incV (0) (0) (ex3A n up j).mov = _
    rw [n2]; unfold incV; rw [if_pos hI]; try omega
  have e_vec : (ex3A n up j).vec = [] := by
    show curVec [⟨0, 0, 400 * n⟩] (ex3A n up j).inc _ (ex3A n up j).yr = []
    rw [e_inc, e_yr]; unfold curVec; rw [if_neg (by omega)]
  have e_left : (ex3A n up j).left = [⟨0, 0, 400 * n⟩] := by
    show curNext [⟨0, 0, 400 * n⟩] (ex3A n up j).inc _ _ (ex3A n up j).yr = _
    rw [e_inc, e_yr]; unfold curNext; rw [if_neg (by omega), if_neg (by omega), hx]
  have e_gon : vGone (ex3A n up j).v (ex3A n up j).yr = 0 := by
    show vGone [⟨0, 0, 400 * n⟩] 0 = _
    simp [vGone, overV, sumC]
  have e_new : curNew (ex3A n up j).inc = 0 := by
    rw [e_inc]; unfold curNew; (try split) <;> (try omega)
  have e_lf : (ex3A n up j).lf = 400 * n := by unfold SArg.lf; rw [e_left]; simp [sumC]
  have e_txb : (ex3A n up j).txb = 0 := by
    show (ex3A n up j).inc - (ex3A n up j).vec.sum + curNew (ex3A n up j).inc = _
    rw [e_new, e_inc, e_vec]; simp; try omega
  have e_tax : (ex3A n up j).tax = 0 := by
    unfold SArg.tax; rw [e_txb, e_rt]
    have h := ofVal_half (n := 0) (r := 250000) (by omega) (by omega) (by omega) (by omega)
    omega
  have s1 : shareE (400 * n) 250000 = 0 := by unfold shareE; rw [if_pos]; simp [money, rightRate]; try omega
  have e_ls : (ex3A n up j).ls = 100 * n := by
    unfold SArg.ls; rw [e_lf, e_nx]; unfold shareV; rw [if_pos s1]
    have h := ofVal_half (n := 400 * n) (r := 250000) (by omega) (by omega) (by omega) (by omega)
    omega
  have s2 : shareE (100 * n) (10000 * j) = 0 := by unfold shareE; rw [if_pos]; simp [money, rightRate]; try omega
  have e_al : (ex3A n up j).al = -(n * j) := by
    show -shareV (ex3A n up j).ls (10000 * j) = _
    rw [e_ls]; unfold shareV; rw [if_pos s2]
    first
      | (rw [ofVal_zero]; rfl)
      | (rw [ofVal_100 (by omega) (by omega)])
      | (have h := ofVal_half (n := 100 * n) (r := 10000 * j) (by omega) (by omega) (by omega) (by omega)
         omega)
  have e_lr : (ex3A n up j).lr = 0 := by
    show ofVal (400 * n) (250000) - ofVal (400 * n) (ex3A n up j).nx = 0
    rw [e_nx]; first | omega | (rw [ofVal_zero, ofVal_zero]; rfl)
  have e_lm : (ex3A n up j).lm = 0 := by
    show 100 * n - (ex3A n up j).ls - (ex3A n up j).lr = _
    rw [e_ls, e_lr]; omega
  have e_am : (ex3A n up j).am = n * j := by
    show 0 - (ex3A n up j).al = _
    rw [e_al]; omega
  have e_df : (ex3A n up j).df = n * j := by
    unfold SArg.df; rw [n7, n8, e_lm, e_lr, e_am]; omega
  have e_tot : (ex3A n up j).tot = n * j + up := by
    show (ex3A n up j).tax + (ex3A n up j).df + (up) = _
    rw [e_tax, e_df]; omega
  have i1 : (ex3A n up j).i1 = ofVal (0) 250000 := by show ofVal (0) (ex3A n up j).rt = _; rw [e_rt]
  have i2 : (ex3A n up j).i2 = ofVal (0) 250000 := by show ofVal (0) (ex3A n up j).rt = _; rw [e_rt]
  have i6 : (ex3A n up j).i6 = ofVal (0) 250000 := by show ofVal (vGone (ex3A n up j).v (ex3A n up j).yr) (ex3A n up j).nx = _; rw [e_gon, e_nx]
  have i4 : (ex3A n up j).i4 = 0 := by unfold SArg.i4; rw [n8, e_lr]; rfl
  have i3 : (ex3A n up j).dif = 0 := by
    show apV ((ex3A n up j).vec.sum - curNew (ex3A n up j).inc) (ex3A n up j).nx (ex3A n up j).rt + difS _ (ex3A n up j).rows _ = 0
    rw [n1, e_nx, e_rt]; unfold apV difS; omega
  have v1 := ofVal_half (n := 0) (r := 250000) (by omega) (by omega) (by omega) (by omega)
  have v2 := ofVal_half (n := 0) (r := 250000) (by omega) (by omega) (by omega) (by omega)
  have v6 := ofVal_half (n := 0) (r := 250000) (by omega) (by omega) (by omega) (by omega)
  have i8 : (ex3A n up j).i8 = (ex3A n up j).tot - ((ex3A n up j).i1 + (ex3A n up j).i2 + (ex3A n up j).dif + (ex3A n up j).i4 + (ex3A n up j).am + (ex3A n up j).i6 + (up)) := rfl
  have m1 : (ex3A n up j).argOk = true := by
    show (perOk 1 && (rightRate (10000 * j) && money (up))) = true
    simp [perOk, rightRate, money]; try omega
  have m2 : (ex3A n up j).knownE = 0 := by
    unfold SArg.knownE
    rw [if_neg (by rw [show rateB (ex3A n up j).t (ex3A n up j).x.j (ex3A n up j).yr (ex3A n up j).x.per = true from h2]; decide), if_neg (by rw [show nextE (ex3A n up j).t (ex3A n up j).x.j (ex3A n up j).x.per = 0 from h3]; decide)]
    exact n11
  have m3 : (ex3A n up j).taxE = 0 := by
    show curE [⟨0, 0, 400 * n⟩] (0) (0) (ex3A n up j).mov 0 0 (ex3A n up j).yr (ex3A n up j).rt = 0
    rw [n2, e_rt, e_yr]
    unfold curE
    have hv : incV (0) (0) 0 = 0 := by unfold incV; rw [if_pos hI]; try omega
    rw [if_neg (by decide), if_neg (by rw [hI]; decide), hv]
    rw [if_neg (by omega)]
  have m4 : (ex3A n up j).balE = 0 := by
    unfold SArg.balE
    rw [if_neg (by rw [n9]; decide), e_lf, e_nx, if_neg (by rw [s1]; decide), e_ls]
    exact s2
  have m6 : (ex3A n up j).costE = 0 := by
    unfold SArg.costE SArg.costs
    rw [e_lm, e_lr, e_am, e_tax, n4, e_ls, e_al, e_df, e_tot]
    rw [if_pos]
    show List.all [_, 0, _, _ + (up), 0 - 0, _ - (100 * n), _ - (0), _, _] money = true
    simp only [List.all_cons, List.all_nil, money, Bool.and_true, Bool.and_eq_true, decide_eq_true_eq]
    omega
  have hz : (ex3A n up j).makE = 0 := by
    unfold SArg.makE
    rw [if_neg (by rw [m1]; decide), if_neg (by rw [m2]; decide), if_neg (by rw [m3]; decide), if_neg (by rw [m4]; decide), if_neg (by rw [n10]; decide), m6]
  refine ⟨⟨g, hz⟩, e_tot, by unfold SArg.clo; rw [n3, e_nx, e_lf, n4, e_ls, e_al]; rfl, e_left, ?_⟩
  unfold SArg.itemL
  rw [i8, i3, i4, e_am, e_tot, i1, i2, i6]
  simp only [List.cons.injEq, SItem.mk.injEq, true_and, and_true]
  refine ⟨?_, ?_, ?_, ?_, ?_⟩ <;> first | omega | rfl

end Go.Sl
end
section
/- The walk of ReconExpired. -/
namespace Go.Proofs.YtnfedcaehkcffaaGreat
open Go.RowKit Go.Sl
set_option maxHeartbeats 4000000
set_option maxRecDepth 100000
set_option linter.unusedSimpArgs false
theorem reconExpired_calls (z0 z1 z2 z3 : Int) (w : World) :
    Calls Tryz.prog 5 #[.int .i64 z0, .int .i64 z1, .int .i64 z2, .int .i64 z3] w fun e w' => e = .returned (.bool true) ∧ Below w.heap.size w w' := by
  have WC0 := fun W => within_calls z0 1000 W (by omega) (by omega)
  have WC1 := fun W => within_calls z1 1000 W (by omega) (by omega)
  have WC2 := fun W => within_calls z2 2001 W (by omega) (by omega)
  have WC3 := fun W => within_calls z3 101 W (by omega) (by omega)
  have p1 := within_lo z0 (n := 1000) (by omega)
  have p2 := within_hi z0 (n := 1000) (by omega)
  have q1 := within_lo z1 (n := 1000) (by omega)
  have q2 := within_hi z1 (n := 1000) (by omega)
  have k1 := within_lo z2 (n := 2001) (by omega)
  have k2 := within_hi z2 (n := 2001) (by omega)
  have j1 := within_lo z3 (n := 101) (by omega)
  have j2 := within_hi z3 (n := 101) (by omega)
  generalize within z0 1000 = p at *
  generalize within z1 1000 = m at *
  generalize within z2 2001 = k at *
  generalize within z3 101 = j at *
  obtain ⟨n, hn⟩ : ∃ n, Hid (n = 1 + p) := ⟨_, rfl⟩
  have hn1 : 1 ≤ n ∧ n ≤ 1000 := by rw [hn.out]; omega
  obtain ⟨up, hup⟩ : ∃ B, k - 1000 = B := ⟨_, rfl⟩
  have bup : -1000 ≤ up ∧ up ≤ 1000 := by omega
  have F1 := ex1 (n := n) hn1
  have F2 := ex2 (n := n) (m := m) (up := up) (j := j) hn1 (by omega) bup (by omega)
  have F3 := ex3 (n := n) (up := up) (j := j) hn1 bup (by omega)
  unfold ex1A at F1
  unfold ex2A at F2
  unfold ex3A at F3
  obtain ⟨L, hL⟩ : ∃ B, 400 * n = B := ⟨_, rfl⟩
  obtain ⟨A, hA⟩ : ∃ B, 100 * n = B := ⟨_, rfl⟩
  obtain ⟨pm, hpm⟩ : ∃ B, 100 * m = B := ⟨_, rfl⟩
  obtain ⟨p4, hp4⟩ : ∃ B, 25 * m = B := ⟨_, rfl⟩
  obtain ⟨J, hJ⟩ : ∃ B, 10000 * j = B := ⟨_, rfl⟩
  obtain ⟨O, hO⟩ : ∃ B, n * j = B := ⟨_, rfl⟩
  have bO : 0 ≤ O ∧ O ≤ A := by
    rw [← hO, ← hA]
    exact ⟨Int.mul_nonneg (by omega) j1, by rw [Int.mul_comm 100 n]; exact Int.mul_le_mul_of_nonneg_left (by omega) (by omega)⟩
  rw [hL, hA] at F1
  rw [hL, hA, hJ, hpm, hp4] at F2
  rw [hL, hA, hJ, hO] at F3
  have e1 : 400 * (1 + p) = L := by rw [← hL, hn.out]
  have bL : 400 ≤ L ∧ L ≤ 400000 := by omega
  have bA : 100 ≤ A ∧ A ≤ 100000 := by omega
  have bJ : 0 ≤ J ∧ J ≤ 1000000 := by omega
  have bpm : 0 ≤ pm ∧ pm ≤ 100000 := by omega
  have v1 : L.tdiv 4 = A := by rw [← hL, ← hA, show 400 * n = 100 * n * 4 by omega, Int.mul_tdiv_cancel _ (by decide)]
  have v0 : (-L).tdiv 4 = -A := by rw [Int.neg_tdiv, v1]
  have v2 : L.tdiv 400 = n := by rw [← hL, Int.mul_comm, Int.mul_tdiv_cancel _ (by decide)]
  have v3 : J.tdiv 10000 = j := by rw [← hJ, Int.mul_comm, Int.mul_tdiv_cancel _ (by decide)]
  have v4 : pm.tdiv 4 = p4 := by rw [← hpm, ← hp4, show 100 * m = 25 * m * 4 by omega, Int.mul_tdiv_cancel _ (by decide)]
  have y1 : wrap64 A = A := wrap64_small (by omega)
  have y2 : wrap64 n = n := wrap64_small (by omega)
  have y3 : wrap64 j = j := wrap64_small (by omega)
  have y4 : wrap64 O = O := wrap64_small (by omega)
  have y5 : wrap64 p4 = p4 := wrap64_small (by omega)
  have y6 : wrap64 (-A) = -A := wrap64_small (by omega)
  obtain ⟨g1, o1, c1, l1, i1⟩ := F1
  obtain ⟨g2, o2, c2, l2, i2⟩ := F2
  obtain ⟨g3, o3, c3, l3, i3⟩ := F3
  obtain ⟨u, hu⟩ : ∃ u, Hid ((⟨oneT 250000, ⟨ukS, 0, -L, 0, 0, 0, 0, 0⟩, balNone, [], []⟩ : SArg).out = u) := ⟨_, rfl⟩
  have ho : u.clo 0 [] = ⟨0, [], [], 250000, L, 0, A, 0⟩ := (clo_out hu.out).symm.trans c1
  rw [← ho] at g2 o2 c2 l2 i2 g3 o3 c3 l3 i3
  obtain ⟨u2, hu2⟩ : ∃ u2, Hid ((⟨oneT 250000, ⟨ukS, 4, L, pm, J, 0, 0, up⟩, u.clo 0 [], [⟨0, 0, L⟩], []⟩ : SArg).out = u2) := ⟨_, rfl⟩
  obtain ⟨u3, hu3⟩ : ∃ u3, Hid ((⟨oneT 250000, ⟨ukS, 1, 0, 0, J, 0, 0, up⟩, u.clo 0 [], [⟨0, 0, L⟩], []⟩ : SArg).out = u3) := ⟨_, rfl⟩
  have s5 : Hid (u.left = [⟨0, 0, L⟩]) := by unfold Hid; rw [← hu.out]; exact l1
  have I1 := Lib.hid i1
  have I2 := Lib.hid i2
  have I3 := Lib.hid i3
  have M1 := Lib.hid g1.z
  have M2 := Lib.hid g2.z
  have M3 := Lib.hid g3.z
  obtain ⟨w1', w2', _⟩ := oneT_good (R := 250000) (by decide)
  have H1 := Lib.hid w1'
  have H2 := Lib.hid w2'
  have E0 := Env.start w
  replace ho := Lib.hid ho
  clear o1 c1 l1 i1 o2 c2 l2 i2 o3 c3 l3 i3 hL hA hp4 w1' w2'
  go_enter Tryz.func5, Tryz.ntmps5
  go_wp2_with fail
  refine (Tab.new E0).mono ?_
  rintro e w1 ⟨h1, b1, rfl, S1, E1⟩
  try simp at E1
  go_wp2_with fail
  refine (Regi.new E1).mono ?_
  rintro e w2 ⟨h2, b2, rfl, SR, E2⟩
  try simp at E2
  go_wp2_with fail
  refine (Vnt.new E2).mono ?_
  rintro e w3 ⟨h3, b3, rfl, SV, E3⟩
  try simp at E3
  go_wp2_with fail
  refine (Tab.add S1 E3 0 rfl ukS 0 250000 0 ⟨H1.out, H2.out⟩).mono ?_
  rintro e w4 ⟨h4, rfl, ST, E4⟩
  simp at E4
  go_wp2_with fail
  refine (WC0 _).mono ?_
  rintro e w' ⟨rfl, rfl⟩
  go_wp2_with fail
  refine (WC1 _).mono ?_
  rintro e w' ⟨rfl, rfl⟩
  go_wp2_with fail
  refine (WC2 _).mono ?_
  rintro e w' ⟨rfl, rfl⟩
  go_wp2_with fail
  refine (WC3 _).mono ?_
  rintro e w' ⟨rfl, rfl⟩
  go_wp2_with fail
  refine (closingNone_calls _).mono ?_
  rintro e w5 ⟨rfl, B5⟩
  replace E4 := E4.below B5
  go_wp2_with fail
  refine (Mk.ok (x := ⟨ukS, 0, -L, 0, 0, 0, 0, 0⟩) (o := balNone) (A := none) (B := none) (ca := 0) (cb := 0) (hx := Hp.none) (hs := Hp.none) E4 g1.toGoodA M1 hu (E4.sub 0 rfl) (Hp.none_sub _) (Hp.none_sub _) (E4.sub 2 rfl) (E4.sub 1 rfl) ST.pt (Sl.none _ _) (Sl.none _ _) SV SR).mono ?_
  rintro e w6 ⟨ha, hla, bla, Da, cda, Ga, cga, Ra, cra, Qa, cqa, Va, cva, Ca, cwa, Na, cna, rfl, _, _, sR, sQ, _, sC, sN, SL, E6⟩
  simp at E6
  go_upto_region 6 with (refine wpList_store_env rfl (E6.box0 [.string ⟨#[]⟩, .int .i64 0, .int .i64 0, .int .i64 0, .int .i64 0, .int .i64 0, .int .i64 0, .int .i64 0, .int .i64 0, .int .i64 0, .slice none 0 0, .slice none 0 0, .int .i64 0, .int .i64 0, .int .i64 0, .int .i64 0, .int .i64 0, .int .i64 0, .slice none 0 0, .slice none 0 0, .int .i64 0, .int .i64 0, .int .i64 0, .int .i64 0, .int .i64 0, .int .i64 0, .int .i64 0, .int .i64 0, .int .i64 0, .int .i64 0, .int .i64 0, .slice none 0 0, .slice none 0 0, .slice none 0 0, .int .i64 0, .int .i64 0, .int .i64 0, .int .i64 0, .int .i64 0, .int .i64 0, .int .i64 0] 44) 0 rfl 44 _ _ rfl 0 _ rfl rfl (by simp) (by kernel_rfl) (by simp [Value.oneCell']) ?_; intro W7 E7)
  simp at E7
  go_wp2_with (refine wpList_load_env (by rfl) E7 0 rfl 44 _ rfl rfl Tryz.underlying44 rfl (by kernel_rfl) ?_)
  refine (Mk.items g1 hu E7 (E7.sub 4 rfl) sC sN I1).mono ?_
  rintro e w8 ⟨D8, cd8, h8, rfl, oi, E8⟩
  simp at E8
  have SC := fun (W : World) (hW : h8.sub W) => recSum_calls D8 cd8 _ h8 W hW oi.sl (by simp) (by simp; omega)
  go_wp2_with fail
  refine (SC _ (E8.sub 6 rfl)).mono ?_
  rintro e w9 ⟨rfl, B9⟩
  have E9 := E8.below B9
  rw [s5.out] at SL
  clear SC
  go_wp2_with (refine wpList_load_mid rfl 37 _ rfl w6.heap.size 17 rfl _ _ (E9.rangeMid 0 rfl 17 [.int .i64 0, .slice Ra 0 cra, .slice Qa u.rats.length cqa, .int .i64 u.nx, .int .i64 u.lf, .int .i64 u.tm, .int .i64 u.ls, .int .i64 u.al] rfl) Tryz.underlying37 rfl (by kernel_rfl) ?_)
  refine (Mk.ok (x := ⟨ukS, 4, L, pm, J, 0, 0, up⟩) (o := u.clo 0 []) E9 g2.toGoodA M2 hu2 (E9.sub 1 rfl) (E9.sub 4 rfl) (E9.sub 4 rfl) (E9.sub 5 rfl) (E9.sub 2 rfl) ST.pt sR sQ SL SR).mono ?_
  rintro e w10 ⟨hb, hlb, blb, Db, cdb, Gb, cgb, Rb, crb, Qb, cqb, Vb, cvb, Cb, cwb, Nb, cnb, rfl, _, _, _, _, _, sCb, sNb, _, E10⟩
  simp at E10
  go_upto_region 9 with (refine wpList_store_env rfl (E10.box0 [.string ⟨#[]⟩, .int .i64 0, .int .i64 0, .int .i64 0, .int .i64 0, .int .i64 0, .int .i64 0, .int .i64 0, .int .i64 0, .int .i64 0, .slice none 0 0, .slice none 0 0, .int .i64 0, .int .i64 0, .int .i64 0, .int .i64 0, .int .i64 0, .int .i64 0, .slice none 0 0, .slice none 0 0, .int .i64 0, .int .i64 0, .int .i64 0, .int .i64 0, .int .i64 0, .int .i64 0, .int .i64 0, .int .i64 0, .int .i64 0, .int .i64 0, .int .i64 0, .slice none 0 0, .slice none 0 0, .slice none 0 0, .int .i64 0, .int .i64 0, .int .i64 0, .int .i64 0, .int .i64 0, .int .i64 0, .int .i64 0] 44) 0 rfl 44 _ _ rfl 0 _ rfl rfl (by simp) (by kernel_rfl) (by simp [Value.oneCell']) ?_; intro W11 E11)
  simp at E11
  go_wp2_with (refine wpList_load_env (by rfl) E11 0 rfl 44 _ rfl rfl Tryz.underlying44 rfl (by kernel_rfl) ?_)
  refine (Mk.items g2 hu2 E11 (E11.sub 8 rfl) sCb sNb I2).mono ?_
  rintro e w12 ⟨D12, cd12, h12, rfl, oi2, E12⟩
  simp at E12
  have E13 := E12.box0 [.int .i64 1, .int .i64 A, .int .i64 2, .int .i64 p4, .int .i64 3, .int .i64 0, .int .i64 4, .int .i64 0, .int .i64 5, .int .i64 0, .int .i64 6, .int .i64 A, .int .i64 7, .int .i64 up, .int .i64 8, .int .i64 0] 61
  have sy : Sl kItem (Hp.box w12.heap.size [.int .i64 1, .int .i64 A, .int .i64 2, .int .i64 p4, .int .i64 3, .int .i64 0, .int .i64 4, .int .i64 0, .int .i64 5, .int .i64 0, .int .i64 6, .int .i64 A, .int .i64 7, .int .i64 up, .int .i64 8, .int .i64 0] 61) (some ⟨w12.heap.size, 0, none⟩) 8 [⟨1, A⟩, ⟨2, p4⟩, ⟨3, 0⟩, ⟨4, 0⟩, ⟨5, 0⟩, ⟨6, A⟩, ⟨7, up⟩, ⟨8, 0⟩] := Sl.litItem (fr := (0, 0)) (Hp.one_self _ _) rfl (by decide)
  have SM := fun (W : World) (h1 : h12.sub W) (h2 : (Hp.box w12.heap.size [.int .i64 1, .int .i64 A, .int .i64 2, .int .i64 p4, .int .i64 3, .int .i64 0, .int .i64 4, .int .i64 0, .int .i64 5, .int .i64 0, .int .i64 6, .int .i64 A, .int .i64 7, .int .i64 up, .int .i64 8, .int .i64 0] 61).sub W) => same_item D12 _ cd12 8 _ _ h12 _ W h1 h2 oi2.sl sy
  rw [eqB_t rfl] at SM
  go_wp2_with fail
  refine (SM _ (E13.sub 11 rfl) (E13.sub 0 rfl)).mono ?_
  rintro e w14 ⟨rfl, B14⟩
  have E14 := E13.below B14
  clear SM sy E13 E12 E11
  go_wp2_with (refine wpList_load_mid rfl 37 _ rfl w6.heap.size 17 rfl _ _ (E14.rangeMid 2 rfl 17 [.int .i64 0, .slice Ra 0 cra, .slice Qa u.rats.length cqa, .int .i64 u.nx, .int .i64 u.lf, .int .i64 u.tm, .int .i64 u.ls, .int .i64 u.al] rfl) Tryz.underlying37 rfl (by kernel_rfl) ?_)
  refine (Mk.ok (x := ⟨ukS, 1, 0, 0, J, 0, 0, up⟩) (o := u.clo 0 []) E14 g3.toGoodA M3 hu3 (E14.sub 3 rfl) (E14.sub 6 rfl) (E14.sub 6 rfl) (E14.sub 7 rfl) (E14.sub 4 rfl) ST.pt sR sQ SL SR).mono ?_
  rintro e w15 ⟨hc, hlc, blc, Dc, cdc, Gc, cgc, Rc, crc, Qc, cqc, Vc, cvc, Cc, cwc, Nc, cnc, rfl, _, _, _, _, _, sCc, sNc, _, E15⟩
  simp at E15
  go_upto_region 12 with (refine wpList_store_env rfl (E15.box0 [.string ⟨#[]⟩, .int .i64 0, .int .i64 0, .int .i64 0, .int .i64 0, .int .i64 0, .int .i64 0, .int .i64 0, .int .i64 0, .int .i64 0, .slice none 0 0, .slice none 0 0, .int .i64 0, .int .i64 0, .int .i64 0, .int .i64 0, .int .i64 0, .int .i64 0, .slice none 0 0, .slice none 0 0, .int .i64 0, .int .i64 0, .int .i64 0, .int .i64 0, .int .i64 0, .int .i64 0, .int .i64 0, .int .i64 0, .int .i64 0, .int .i64 0, .int .i64 0, .slice none 0 0, .slice none 0 0, .slice none 0 0, .int .i64 0, .int .i64 0, .int .i64 0, .int .i64 0, .int .i64 0, .int .i64 0, .int .i64 0] 44) 0 rfl 44 _ _ rfl 0 _ rfl rfl (by simp) (by kernel_rfl) (by simp [Value.oneCell']) ?_; intro W16 E16)
  simp at E16
  go_wp2_with (refine wpList_load_env (by rfl) E16 0 rfl 44 _ rfl rfl Tryz.underlying44 rfl (by kernel_rfl) ?_)
  refine (Mk.items g3 hu3 E16 (E16.sub 13 rfl) sCc sNc I3).mono ?_
  rintro e w17 ⟨D17, cd17, h17, rfl, oi3, E17⟩
  simp at E17
  have E18 := E17.box0 [.int .i64 1, .int .i64 0, .int .i64 2, .int .i64 0, .int .i64 3, .int .i64 0, .int .i64 4, .int .i64 0, .int .i64 5, .int .i64 O, .int .i64 6, .int .i64 0, .int .i64 7, .int .i64 up, .int .i64 8, .int .i64 0] 61
  have sy : Sl kItem (Hp.box w17.heap.size [.int .i64 1, .int .i64 0, .int .i64 2, .int .i64 0, .int .i64 3, .int .i64 0, .int .i64 4, .int .i64 0, .int .i64 5, .int .i64 O, .int .i64 6, .int .i64 0, .int .i64 7, .int .i64 up, .int .i64 8, .int .i64 0] 61) (some ⟨w17.heap.size, 0, none⟩) 8 [⟨1, 0⟩, ⟨2, 0⟩, ⟨3, 0⟩, ⟨4, 0⟩, ⟨5, O⟩, ⟨6, 0⟩, ⟨7, up⟩, ⟨8, 0⟩] := Sl.litItem (fr := (0, 0)) (Hp.one_self _ _) rfl (by decide)
  have SM := fun (W : World) (h1 : h17.sub W) (h2 : (Hp.box w17.heap.size [.int .i64 1, .int .i64 0, .int .i64 2, .int .i64 0, .int .i64 3, .int .i64 0, .int .i64 4, .int .i64 0, .int .i64 5, .int .i64 O, .int .i64 6, .int .i64 0, .int .i64 7, .int .i64 up, .int .i64 8, .int .i64 0] 61).sub W) => same_item D17 _ cd17 8 _ _ h17 _ W h1 h2 oi3.sl sy
  rw [eqB_t rfl] at SM
  have SC := fun W : World => recSum_calls none 0 [] Hp.none W (Hp.none_sub W) (Sl.none _ _) (by simp) (by simp)
  go_wp2_with fail
  refine (SM _ (E18.sub 16 rfl) (E18.sub 0 rfl)).mono ?_
  rintro e w19 ⟨rfl, B19⟩
  have E19 := E18.below B19
  clear SM sy E18 E17 E16
  go_wp2_with fail
  refine (SC _).mono ?_
  rintro e w20 ⟨rfl, B20⟩
  have E20 := E19.below B20
  go_wp2_with fail
  refine (wakes21 _).mono ?_
  rintro e w21 ⟨rfl, B21⟩
  go_wp2
  go_ret
  exact ⟨rfl, (E20.below B21).low⟩
end Go.Proofs.YtnfedcaehkcffaaGreat
end
section
/- Inputs that have no provision, and why: plain. No program is named here. -/
namespace Go.Sl
open Go Go.RowKit
def frS : ByteArray := ⟨#[102, 114]⟩
def twoT : List SRate := [⟨ukS, 0, 250000, 0⟩, ⟨deS, 5, 1, 3⟩]
theorem twoT_ok : tabE (oneT 250000) deS 5 1 3 = 0 ∧ tabAdd (oneT 250000) deS 5 1 3 = twoT := by
  have h : tabE (oneT 250000) deS 5 1 3 = 0 := by decide +kernel
  exact ⟨h, by unfold tabAdd; rw [if_pos h]; rfl⟩
theorem twoT_good : GoodT twoT := twoT_ok.2 ▸ (oneT_good (R := 250000) (by decide)).2.2.add deS 5 1 3
structure SErr where
  x : SInp
  e : Int
def SErr.cells (y : SErr) : List Value := [.string y.x.j, .int .i64 y.x.per, .int .i64 y.x.book, .int .i64 y.x.perm, .int .i64 y.x.judge, .int .i64 y.x.cap, .int .i64 y.x.life, .int .i64 y.x.up, .int .i64 y.e]
def kErr : Kd SErr := Kd.flat 9 SErr.cells (by decide) (fun _ => rfl) (fun y u h => by
  simp [SErr.cells] at h; rcases h with rfl | rfl | rfl | rfl | rfl | rfl | rfl | rfl | rfl <;> rfl)
theorem Sl.err {h : Hp} {A : Option Addr} {cap : Nat} {xs : List SErr} {w : World} (s : Sl kErr h A cap xs) (hs : h.sub w) {i : Nat} {x : SErr} (hx : Hid (xs[i]? = some x)) :
    ∃ b off, A = some ⟨b, off, .none⟩ ∧ w.cell? ⟨b, off + i * 9, .none⟩ = some (.string x.x.j) ∧ w.cell? ⟨b, off + i * 9 + 1, .none⟩ = some (.int .i64 x.x.per) ∧ w.cell? ⟨b, off + i * 9 + 2, .none⟩ = some (.int .i64 x.x.book) ∧ w.cell? ⟨b, off + i * 9 + 3, .none⟩ = some (.int .i64 x.x.perm) ∧
      w.cell? ⟨b, off + i * 9 + 4, .none⟩ = some (.int .i64 x.x.judge) ∧ w.cell? ⟨b, off + i * 9 + 5, .none⟩ = some (.int .i64 x.x.cap) ∧ w.cell? ⟨b, off + i * 9 + 6, .none⟩ = some (.int .i64 x.x.life) ∧ w.cell? ⟨b, off + i * 9 + 7, .none⟩ = some (.int .i64 x.x.up) ∧ w.cell? ⟨b, off + i * 9 + 8, .none⟩ = some (.int .i64 x.e) := by
  obtain ⟨b, off, cs, e, hK, _, hc⟩ := s.at hs hx.out
  have hK' : cs = SErr.cells x := hK
  subst hK'
  exact ⟨b, off, e, by simpa [kErr, Kd.flat] using hc 0 _ rfl, hc 1 _ rfl, hc 2 _ rfl, hc 3 _ rfl, hc 4 _ rfl, hc 5 _ rfl, hc 6 _ rfl, hc 7 _ rfl, hc 8 _ rfl⟩
def erL (n : Int) : List SErr := [⟨⟨ukS, -1, 0, 0, 0, 0, 0, 0⟩, 1⟩, ⟨⟨ukS, 400, 0, 0, 0, 0, 0, 0⟩, 1⟩, ⟨⟨ukS, 0, 0, 0, -n, 0, 0, 0⟩, 1⟩, ⟨⟨ukS, 0, 0, 0, 0, 0, 0, 100000000000 + n⟩, 1⟩, ⟨⟨frS, 0, 0, 0, 0, 0, 0, 0⟩, 7⟩, ⟨⟨deS, 2, 0, 0, 0, 0, 0, 0⟩, 7⟩, ⟨⟨deS, 16, 0, 0, 0, 0, 0, 0⟩, 7⟩, ⟨⟨deS, 20, 0, 0, 0, 0, 0, 0⟩, 0⟩,
  ⟨⟨ukS, 0, 100000000000 + n, 0, 0, 0, 0, 0⟩, 6⟩, ⟨⟨ukS, 0, 100000000000, n, 0, 0, 0, 0⟩, 6⟩, ⟨⟨ukS, 0, 0, 0, 0, -1, 0, 0⟩, 1⟩, ⟨⟨ukS, 0, 0, 0, 0, 0, -1, 0⟩, 1⟩, ⟨⟨ukS, 0, 100000000000, 0, 0, 0, 0, 100000000000⟩, 6⟩, ⟨⟨ukS, 0, n, 0, 0, 0, 0, -n⟩, 0⟩]
theorem er_known (bk pm jd cp lf up : Int) : (⟨twoT, ⟨ukS, 0, bk, pm, jd, cp, lf, up⟩, balNone, [], []⟩ : SArg).knownE = 0 ∧ (⟨twoT, ⟨ukS, 0, bk, pm, jd, cp, lf, up⟩, balNone, [], []⟩ : SArg).rt = 250000 ∧ (⟨twoT, ⟨ukS, 0, bk, pm, jd, cp, lf, up⟩, balNone, [], []⟩ : SArg).nx = 250000 := ⟨by rfl, by rfl, by rfl⟩
theorem er_arg (x : SInp) (h : (perOk x.per && (rightRate x.judge && money x.up)) = false) : (⟨twoT, x, balNone, [], []⟩ : SArg).makE = 1 := by
  unfold SArg.makE SArg.argOk; rw [if_pos h]
theorem er_over (bk pm : Int) (h : incOk bk pm 0 = false) : (⟨twoT, ⟨ukS, 0, bk, pm, 0, 0, 0, 0⟩, balNone, [], []⟩ : SArg).makE = 6 := by
  obtain ⟨k1, k2, _⟩ := er_known bk pm 0 0 0 0
  have ht : (⟨twoT, ⟨ukS, 0, bk, pm, 0, 0, 0, 0⟩, balNone, [], []⟩ : SArg).taxE = 6 := by
    show curE [] bk pm 0 0 0 0 (⟨twoT, ⟨ukS, 0, bk, pm, 0, 0, 0, 0⟩, balNone, [], []⟩ : SArg).rt = 6
    rw [k2]; unfold curE; rw [if_neg (by decide), if_pos h]
  unfold SArg.makE
  rw [if_neg (by show ¬ (perOk 0 && (rightRate 0 && money 0)) = false; decide), if_neg (by rw [k1]; decide), if_pos (by rw [ht]; decide), ht]
theorem er_last {n : Int} (hn : 1 ≤ n ∧ n ≤ 1000) : (⟨twoT, ⟨ukS, 0, n, 0, 0, 0, 0, -n⟩, balNone, [], []⟩ : SArg).makE = 0 := by
  obtain ⟨k1, k2, k3⟩ := er_known n 0 0 0 0 (-n)
  obtain ⟨n1, n2, n3, n4, n5, n6, n7, n8, n9, n10, n11⟩ := no_rows (a := ⟨twoT, ⟨ukS, 0, n, 0, 0, 0, 0, -n⟩, balNone, [], []⟩) rfl rfl rfl
  generalize ha : (⟨twoT, ⟨ukS, 0, n, 0, 0, 0, 0, -n⟩, balNone, [], []⟩ : SArg) = a at *
  have hI : incOk n 0 0 = true := by simp [incOk, money]; omega
  have hv : incV n 0 0 = n := by unfold incV; rw [if_pos hI]; omega
  have e_inc : a.inc = n := by
    have : a.inc = incV n 0 a.mov := by rw [← ha]; rfl
    rw [this, n2, hv]
  have e_vec : a.vec = [] := by
    have : a.vec = curVec [] a.inc 0 a.yr := by rw [← ha]; rfl
    rw [this]; unfold curVec; split <;> rfl
  have e_left : a.left = [] := by
    have : a.left = curNext [] a.inc 0 0 a.yr := by rw [← ha]; rfl
    rw [this, e_inc]; unfold curNext; rw [if_pos (by omega)]; unfold vTake; split <;> rfl
  have e_lf : a.lf = 0 := by unfold SArg.lf; rw [e_left]; rfl
  have e_txb : a.txb = n := by
    have : a.txb = a.inc - a.vec.sum + curNew a.inc := rfl
    rw [this, e_inc, e_vec]; unfold curNew; rw [if_neg (by omega)]; simp
  have hh := ofVal_half (n := n) (r := 250000) (by omega) (by omega) (by omega) (by omega)
  have e_tax : a.tax = ofVal n 250000 := by unfold SArg.tax; rw [e_txb, k2]
  have e_ls : a.ls = 0 := by
    unfold SArg.ls; rw [e_lf]
    have := shareV_rng 0 a.nx; omega
  have e_al : a.al = 0 := by
    unfold SArg.al; rw [e_ls]
    have := shareV_rng 0 a.x.judge; omega
  have e_lr : a.lr = 0 := by
    have : a.lr = ofVal 0 0 - ofVal 0 a.nx := by rw [← ha]; rfl
    rw [this, ofVal_zero, ofVal_zero]; rfl
  have e_lm : a.lm = 0 := by
    have : a.lm = 0 - a.ls - a.lr := by rw [← ha]; rfl
    rw [this, e_ls, e_lr]; rfl
  have e_am : a.am = 0 := by
    have : a.am = 0 - a.al := by rw [← ha]; rfl
    rw [this, e_al]; rfl
  have e_df : a.df = 0 := by unfold SArg.df; rw [n7, n8, e_lm, e_lr, e_am]; rfl
  have e_tot : a.tot = ofVal n 250000 - n := by
    have : a.tot = a.tax + a.df + -n := by rw [← ha]; rfl
    rw [this, e_tax, e_df]; omega
  have m1 : a.argOk = true := by
    have : a.argOk = (perOk 0 && (rightRate 0 && money (-n))) := by rw [← ha]; rfl
    rw [this]; simp [perOk, rightRate, money]; omega
  have m3 : a.taxE = 0 := by
    have : a.taxE = curE [] n 0 a.mov 0 0 0 a.rt := by rw [← ha]; rfl
    rw [this, n2, k2]; unfold curE
    rw [if_neg (by decide), if_neg (by rw [hI]; decide), hv, if_neg (by omega)]
  have m4 : a.balE = 0 := by
    unfold SArg.balE
    have hj : a.x.judge = 0 := by rw [← ha]
    rw [if_neg (by rw [n9]; decide), e_lf, k3, if_neg (by decide), e_ls, hj]; decide
  have m6 : a.costE = 0 := by
    unfold SArg.costE SArg.costs
    have h1 : a.x.up = -n := by rw [← ha]
    have h2 : a.o.tm = 0 ∧ a.o.ls = 0 ∧ a.o.al = 0 := by rw [← ha]; exact ⟨rfl, rfl, rfl⟩
    rw [e_lm, e_lr, e_am, e_tax, n4, e_ls, e_al, e_df, e_tot, h1, h2.1, h2.2.1, h2.2.2]
    rw [if_pos]
    simp only [List.all_cons, List.all_nil, money, Bool.and_true, Bool.and_eq_true, decide_eq_true_eq]
    omega
  unfold SArg.makE
  rw [if_neg (by rw [m1]; decide), if_neg (by rw [k1]; decide), if_neg (by rw [m3]; decide), if_neg (by rw [m4]; decide), if_neg (by rw [n10]; decide), m6]
theorem er_all {n : Int} (hn : 1 ≤ n ∧ n ≤ 1000) : ∀ y ∈ erL n, (⟨twoT, y.x, balNone, [], []⟩ : SArg).makE = y.e := by
  intro y hy
  simp only [erL, List.mem_cons, List.not_mem_nil, or_false] at hy
  rcases hy with rfl | rfl | rfl | rfl | rfl | rfl | rfl | rfl | rfl | rfl | rfl | rfl | rfl | rfl
  · decide +kernel
  · decide +kernel
  · exact er_arg _ (by simp [perOk, rightRate, money]; omega)
  · exact er_arg _ (by simp [perOk, rightRate, money]; omega)
  · decide +kernel
  · decide +kernel
  · decide +kernel
  · decide +kernel
  · exact er_over _ _ (by simp [incOk, money]; omega)
  · exact er_over _ _ (by simp [incOk, money]; omega)
  · decide +kernel
  · decide +kernel
  · decide +kernel
  · exact er_last hn
end Go.Sl
end
