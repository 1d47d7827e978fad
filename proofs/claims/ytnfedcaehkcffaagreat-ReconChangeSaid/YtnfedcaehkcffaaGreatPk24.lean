/- Walks and plain facts that the laws of this seat share, part 24: contracts of functions, each said at its theorem. -/
import Derived.Test.YtnfedcaehkcffaaGreatPk23
set_option linter.all false
section
/- A rate that changes for years to come: plain. No program is named here. -/
namespace Go.Sl
open Go Go.RowKit
def chT : List SRate := [⟨ukS, 0, 250000, 0⟩, ⟨ukS, 4, 300000, 1⟩]
theorem chT_ok : tabE (oneT 250000) ukS 4 300000 1 = 0 ∧ tabAdd (oneT 250000) ukS 4 300000 1 = chT := by
  have h : tabE (oneT 250000) ukS 4 300000 1 = 0 := by decide +kernel
  exact ⟨h, by unfold tabAdd; rw [if_pos h]; rfl⟩
theorem chT_good : GoodT chT := chT_ok.2 ▸ (oneT_good (R := 250000) (by decide)).2.2.add ukS 4 300000 1
def bkL (M : Int) : List STri := if M = 0 then [] else [⟨1, 5, M⟩]
theorem bkL_good {M : Int} (h : 0 ≤ M ∧ M ≤ 1000000) : GoodR (bkL M) := by
  unfold bkL; split
  · exact GoodR.nil
  · exact one_reg (by decide) (by assumption) (by omega)
theorem mv_bk {S V : Int} (hS : 0 ≤ S ∧ S ≤ 1000000) (hV : 0 ≤ V ∧ V ≤ 1000000) : moveE (bkL S) 1 5 V = 0 ∧ moveR (bkL S) 1 5 V = bkL (S + V) := by
  have hg : getB (bkL S) 1 5 = S := by
    unfold bkL; split
    · rename_i h; rw [h]; rfl
    · simp [getB, find, rkey]
  have hs : setB (bkL S) 1 5 (S + V) = bkL (S + V) := by
    unfold setB bkL
    by_cases h1 : S + V = 0
    · rw [if_pos h1, if_pos h1, if_pos (show S = 0 by omega)]; rfl
    · rw [if_neg h1, if_neg h1]
      by_cases h2 : S = 0
      · rw [if_pos h2]; rfl
      · rw [if_neg h2]; rfl
  have hc : sumC (bkL S) = S := by
    unfold bkL; split
    · rename_i h; rw [h]; rfl
    · simp [sumC]
  have hl : (bkL (S + V)).length ≤ 1 := by unfold bkL; split <;> simp
  have h : moveE (bkL S) 1 5 V = 0 := by
    unfold moveE
    rw [hg, hs, hc, if_neg (by simp [bucketOk, money]; omega), if_neg (by simp [money]; omega), if_neg (by omega)]
  exact ⟨h, by unfold moveR; rw [if_pos h, hg, hs]⟩
theorem fwd_both (M M' : Int) : fwd [⟨1, 5, M⟩] [⟨1, 5, M'⟩] = [⟨1, 5, M, wrap64 (M' - M), M'⟩] := rfl
theorem row_case {a : SArg} {S V N W : Int} (hS : 0 ≤ S ∧ S ≤ 1000000) (hV : 0 ≤ V ∧ V ≤ 1000000) (hN : rightRate N = true) (hW : rightRate W = true) (hM : money (ofVal (S + V) N - ofVal S N) = true) (hR : money (ofVal S N - ofVal S W) = true)
    (h : (S = 0 ∧ V = 0 ∧ a.rows = [] ∧ a.now = [] ∧ a.was = []) ∨ (a.rows = [⟨1, 5, S, V, S + V⟩] ∧ a.now = [N] ∧ (a.was = [W] ∨ (S = 0 ∧ a.was = [N])))) (hp : perOk a.x.per = true) (hb : ratE a.t a.x.j a.wb a.x.per = 0) :
    a.mov = V ∧ a.chgE = 0 ∧ a.mo = ofVal (S + V) N - ofVal S N ∧ a.ra = ofVal S N - ofVal S W ∧ difS a.rt a.rows a.now = apV V N a.rt := by
  rcases h with ⟨rfl, rfl, h1, h2, h3⟩ | ⟨h1, h2, h3⟩
  · have hr : remE a.rows a.was a.now = 0 := by rw [h1, h2, h3]; decide
    refine ⟨by unfold SArg.mov; rw [h1]; rfl, by unfold SArg.chgE; rw [if_neg (by rw [hb]; decide)]; exact hr, ?_, ?_, ?_⟩
    · unfold SArg.mo; rw [h1, h2, h3, Int.add_zero, Int.sub_self]; rfl
    · unfold SArg.ra; rw [h1, h2, h3, ofVal_zero, ofVal_zero]; rfl
    · rw [h1]; unfold apV difS; rw [ofVal_zero, ofVal_zero]; rfl
  · have ms : money S = true := by simp [money]; omega
    have mc : money (S + V) = true := by simp [money]; omega
    have key : remE a.rows a.was a.now = 0 ∧ remMo a.rows a.was a.now = ofVal (S + V) N - ofVal S N ∧ remRa a.rows a.was a.now = ofVal S N - ofVal S W := by
      rcases h3 with h3 | ⟨rfl, h3⟩
      · rw [h1, h2, h3]
        have := remE_ok (rows := [⟨1, 5, S, V, S + V⟩]) (os := [W]) (ns := [N]) rfl rfl (by simp [remAll, remOk, hN, hW, ms, mc]) (by simpa [sumM, remM] using hM) (by simpa [sumR, remR] using hR)
        refine ⟨this.1, this.2.1.trans (by simp [sumM, remM]), this.2.2.trans (by simp [sumR, remR])⟩
      · rw [h1, h2, h3]
        have := remE_ok (rows := [⟨1, 5, 0, V, 0 + V⟩]) (os := [N]) (ns := [N]) rfl rfl (by simp [remAll, remOk, hN, ms, mc]; simpa using mc) (by simpa [sumM, remM] using hM) (by simp [sumR, remR, money])
        refine ⟨this.1, this.2.1.trans (by simp [sumM, remM]), this.2.2.trans (by simp [sumR, remR, ofVal_zero])⟩
    refine ⟨?_, by unfold SArg.chgE; rw [if_neg (by rw [hb]; decide)]; exact key.1, key.2.1, key.2.2, ?_⟩
    · unfold SArg.mov movSum; rw [h1]
      show wrap64 (0 + V) = V
      rw [wrap64_small (by omega)]; omega
    · rw [h1, h2]; simp [difS]

def ch1A (s b : Int) : SArg := ⟨chT, ⟨ukS, 0, 100 * b, 0, 0, 0, 0, 0⟩, balNone, [], bkL (100 * s)⟩
theorem ch1 {s b : Int} (hs : 0 ≤ s ∧ s < 1000) (hb0 : 50000 ≤ b ∧ b < 150000) :
    OkA (ch1A s b) ∧ (ch1A s b).tot = 25 * b ∧ (ch1A s b).clo = (⟨0, bkL (100 * s), (bkL (100 * s)).map (fun _ => 250000), 250000, 0, -(25 * s), 0, 0⟩ : SBal) ∧ (ch1A s b).left = [] ∧ (ch1A s b).itemL = [⟨1, 25 * b⟩, ⟨2, 0⟩, ⟨3, 0⟩, ⟨4, 0⟩, ⟨5, 0⟩, ⟨6, 0⟩, ⟨7, 0⟩, ⟨8, 0⟩] := by
  have g : GoodA (ch1A s b) := ⟨chT_good, GoodB.none, GoodV.nil, bkL_good (by omega)⟩
  have e_rt : (ch1A s b).rt = 250000 := by rfl
  have e_nx : (ch1A s b).nx = 250000 := by rfl
  have k1 : rateB (ch1A s b).t (ch1A s b).x.j (ch1A s b).yr (ch1A s b).x.per = true := by rfl
  have k2 : nextE (ch1A s b).t (ch1A s b).x.j (ch1A s b).x.per = 0 := by rfl
  have w1 := ofVal_half (n := 0 + (100 * s)) (r := 250000) (by omega) (by omega) (by omega) (by omega)
  have w2 := ofVal_half (n := 0) (r := 250000) (by omega) (by omega) (by omega) (by omega)
  have w3 := ofVal_half (n := 0) (r := 250000) (by omega) (by omega) (by omega) (by omega)
  have w4 := ofVal_half (n := (100 * s)) (r := 250000) (by omega) (by omega) (by omega) (by omega)
  have w5 := ofVal_half (n := (100 * s)) (r := 250000) (by omega) (by omega) (by omega) (by omega)
  have hb : ∀ xs : List STri, (∀ z ∈ xs, z.b = 5) → ratE chT ukS xs 0 = 0 := fun xs h => ratE_ok (by decide) fun z hz => by unfold ratOk; rw [h z hz]; rfl
  have hrow : (ch1A s b).mov = 100 * s ∧ (ch1A s b).chgE = 0 ∧ (ch1A s b).mo = ofVal (0 + 100 * s) 250000 - ofVal 0 250000 ∧ (ch1A s b).ra = ofVal 0 250000 - ofVal 0 250000 ∧ difS (ch1A s b).rt (ch1A s b).rows (ch1A s b).now = apV (100 * s) 250000 (ch1A s b).rt ∧ ratE (ch1A s b).t (ch1A s b).x.j (ch1A s b).r (ch1A s b).x.per = 0 ∧ meaE (ch1A s b).r (ch1A s b).rats = 0 ∧ (ch1A s b).rats = (bkL (100 * s)).map (fun _ => 250000) ∧ (ch1A s b).tm = -(25 * s) := by
    have hM : money (ofVal (0 + 100 * s) 250000 - ofVal 0 250000) = true := by simp [money]; omega
    have hR : money (ofVal 0 250000 - ofVal 0 250000) = true := by simp [money]
    by_cases h0 : s = 0
    · subst h0
      have hr : (ch1A 0 b).r = [] := by rfl
      have hrows : (ch1A 0 b).rows = [] := by rfl
      have hw0 : (ch1A 0 b).wb = [] := by rfl
      obtain ⟨q1, q2, q3, q4, q5⟩ := row_case (a := ch1A 0 b) (S := 0) (V := 100 * 0) (N := 250000) (W := 250000) (by omega) (by omega) (by decide) (by decide) hM hR (.inl ⟨rfl, rfl, hrows, by rfl, by rfl⟩) (by rfl) (hb _ (by rw [hw0]; simp))
      exact ⟨q1, q2, q3, q4, q5, by rfl, by rfl, by rfl, by rfl⟩
    · have hr : (ch1A s b).r = [⟨1, 5, 100 * s⟩] := by show bkL (100 * s) = _; unfold bkL; rw [if_neg (by omega)]
      have hrows : (ch1A s b).rows = [⟨1, 5, 0, 100 * s, 0 + 100 * s⟩] := by
        unfold SArg.rows; rw [hr]
        show fwd [] [⟨1, 5, 100 * s⟩] = _
        rw [fwd_new, wrap64_small (by omega), Int.sub_zero, Int.zero_add]
      have hwb : (ch1A s b).wb = [⟨1, 5, 0⟩] := by unfold SArg.wb; rw [hrows]; rfl
      have hnow : (ch1A s b).now = [250000] := by unfold SArg.now; rw [hwb]; rfl
      have hwas : (ch1A s b).was = [250000] := by unfold SArg.was; rw [hrows, hnow]; rfl
      obtain ⟨q1, q2, q3, q4, q5⟩ := row_case (a := ch1A s b) (S := 0) (V := 100 * s) (N := 250000) (W := 250000) (by omega) (by omega) (by decide) (by decide) hM hR (.inr ⟨hrows, hnow, .inl hwas⟩) (by rfl) (hb _ (by rw [hwb]; simp))
      have hrats : (ch1A s b).rats = [250000] := by unfold SArg.rats; rw [hr]; rfl
      have hme : meaE (ch1A s b).r (ch1A s b).rats = 0 := by
        rw [hr, hrats]; unfold meaE
        rw [if_neg (by simp), if_neg (by simp [meaAll, meaOk, rightRate, money]; omega), if_neg (by simp [meaS, money]; omega)]
      refine ⟨q1, q2, q3, q4, q5, hb _ (by rw [hr]; simp), hme, by rw [hrats]; unfold bkL; rw [if_neg (by omega)]; rfl, ?_⟩
      unfold SArg.tm; rw [meaN_zero hme, hr, hrats]; simp [meaS]; omega
  obtain ⟨n2, n10, n7, n8, n12, n11, n9, n3, n4⟩ := hrow
  have hI : incOk (100 * b) 0 ((100 * s)) = true := by simp [incOk, money]; omega
  have e_inc : (ch1A s b).inc = 100 * b - (100 * s) := by
    show incV (100 * b) 0 (ch1A s b).mov = _
    rw [n2]; unfold incV; rw [if_pos hI]; omega
  have e_vec : (ch1A s b).vec = [] := by
    show curVec [] _ _ _ = []
    unfold curVec; split <;> rfl
  have e_left : (ch1A s b).left = [] := by
    show curNext [] (ch1A s b).inc _ _ _ = []
    rw [e_inc]; unfold curNext
    rw [if_pos (by omega)]
    unfold vTake; split <;> rfl
  have e_lf : (ch1A s b).lf = 0 := by unfold SArg.lf; rw [e_left]; rfl
  have e_new : curNew (ch1A s b).inc = 0 := by rw [e_inc]; unfold curNew; rw [if_neg (by omega)]
  have e_txb : (ch1A s b).txb = 100 * b - (100 * s) := by
    show (ch1A s b).inc - (ch1A s b).vec.sum + curNew (ch1A s b).inc = _
    rw [e_new, e_inc, e_vec]; simp
  have w6 := ofVal_half (n := 100 * b - (100 * s)) (r := 250000) (by omega) (by omega) (by omega) (by omega)
  have w7 := ofVal_half (n := 100 * b) (r := 250000) (by omega) (by omega) (by omega) (by omega)
  have e_tax : (ch1A s b).tax = ofVal (100 * b - (100 * s)) 250000 := by unfold SArg.tax; rw [e_txb, e_rt]
  have e_ls : (ch1A s b).ls = 0 := by
    unfold SArg.ls; rw [e_lf]
    have := shareV_rng 0 (ch1A s b).nx; omega
  have e_al : (ch1A s b).al = 0 := by
    unfold SArg.al; rw [e_ls]
    have := shareV_rng 0 (ch1A s b).x.judge; omega
  have e_lr : (ch1A s b).lr = 0 := by
    show ofVal 0 _ - ofVal 0 _ = 0
    rw [ofVal_zero, ofVal_zero]; rfl
  have e_lm : (ch1A s b).lm = 0 := by
    show 0 - (ch1A s b).ls - (ch1A s b).lr = 0
    rw [e_ls, e_lr]; rfl
  have e_am : (ch1A s b).am = 0 := by
    show 0 - (ch1A s b).al = 0
    rw [e_al]; rfl
  have e_df : (ch1A s b).df = 25 * s := by
    unfold SArg.df; rw [n7, n8, e_lr, e_lm, e_am]; omega
  have e_tot : (ch1A s b).tot = 25 * b := by
    show (ch1A s b).tax + (ch1A s b).df + 0 = _
    rw [e_tax, e_df]; omega
  have m1 : (ch1A s b).argOk = true := by rfl
  have m2 : (ch1A s b).knownE = 0 := by
    unfold SArg.knownE
    rw [if_neg (by rw [k1]; decide), if_neg (by rw [k2]; decide)]
    exact n11
  have m3 : (ch1A s b).taxE = 0 := by
    show curE [] (100 * b) 0 (ch1A s b).mov 0 0 0 (ch1A s b).rt = 0
    rw [n2, e_rt]; unfold curE
    rw [if_neg (by decide), if_neg (by rw [hI]; decide), if_neg (by unfold incV; rw [if_pos hI]; omega)]
  have m4 : (ch1A s b).balE = 0 := by
    unfold SArg.balE
    rw [if_neg (by rw [n9]; decide), e_lf, e_nx, if_neg (by decide), e_ls]
    show shareE 0 0 = 0
    decide
  have m6 : (ch1A s b).costE = 0 := by
    unfold SArg.costE SArg.costs
    rw [e_lm, e_lr, e_am, e_tax, n4, e_ls, e_al, e_df, e_tot]
    rw [if_pos]
    show List.all [0, 0, 0, _ + 0, _ - (0), 0 - 0, 0 - 0, _, _] money = true
    simp only [List.all_cons, List.all_nil, money, Bool.and_true, Bool.and_eq_true, decide_eq_true_eq]
    omega
  have hz : (ch1A s b).makE = 0 := by
    unfold SArg.makE
    rw [if_neg (by rw [m1]; decide), if_neg (by rw [m2]; decide), if_neg (by rw [m3]; decide), if_neg (by rw [m4]; decide), if_neg (by rw [n10]; decide), m6]
  have i1 : (ch1A s b).i1 = ofVal (100 * b) 250000 := by show ofVal (100 * b) (ch1A s b).rt = _; rw [e_rt]
  have i2 : (ch1A s b).i2 = 0 := by show ofVal 0 _ = 0; exact ofVal_zero _
  have i6 : (ch1A s b).i6 = 0 := by show ofVal (vGone [] _) _ = 0; exact ofVal_zero _
  have i4 : (ch1A s b).i4 = (ch1A s b).ra := by unfold SArg.i4; rw [e_lr, Int.add_zero]
  have i3 : (ch1A s b).dif = apV ((100 * s)) 250000 250000 := by
    show apV ((ch1A s b).vec.sum - curNew (ch1A s b).inc) (ch1A s b).nx (ch1A s b).rt + difS (ch1A s b).rt (ch1A s b).rows (ch1A s b).now = _
    rw [e_rt, e_nx] at *
    rw [n12, e_vec, e_new]
    unfold apV
    simp
  have i8 : (ch1A s b).i8 = (ch1A s b).tot - ((ch1A s b).i1 + (ch1A s b).i2 + (ch1A s b).dif + (ch1A s b).i4 + (ch1A s b).am + (ch1A s b).i6 + 0) := rfl
  refine ⟨⟨g, hz⟩, e_tot, by unfold SArg.clo; rw [n3, e_nx, e_lf, n4, e_ls, e_al]; rfl, e_left, ?_⟩
  unfold SArg.itemL
  rw [i8, i3, i4, e_am, e_tot, i1, i2, i6, n8, show (ch1A s b).x.up = 0 from rfl]
  simp only [List.cons.injEq, SItem.mk.injEq, true_and, and_true]
  unfold apV
  refine ⟨?_, ?_, ?_, ?_⟩ <;> omega

def ch2A (s v b : Int) : SArg := ⟨chT, ⟨ukS, 1, 100 * b, 0, 0, 0, 0, 0⟩, ⟨0, bkL (100 * s), (bkL (100 * s)).map (fun _ => 250000), 250000, 0, -(25 * s), 0, 0⟩, [], bkL (100 * s + 100 * v)⟩
theorem ch2 {s v b : Int} (hs : 0 ≤ s ∧ s < 1000) (hv0 : 0 ≤ v ∧ v < 1000) (hb0 : 50000 ≤ b ∧ b < 150000) :
    OkA (ch2A s v b) ∧ (ch2A s v b).tot = 25 * b + 5 * (v + s) ∧ (ch2A s v b).clo = (⟨1, bkL (100 * s + 100 * v), (bkL (100 * s + 100 * v)).map (fun _ => 300000), 250000, 0, -(30 * (s + v)), 0, 0⟩ : SBal) ∧ (ch2A s v b).left = [] ∧ (ch2A s v b).itemL = [⟨1, 25 * b⟩, ⟨2, 0⟩, ⟨3, 5 * v⟩, ⟨4, 5 * s⟩, ⟨5, 0⟩, ⟨6, 0⟩, ⟨7, 0⟩, ⟨8, 0⟩] := by
  have g : GoodA (ch2A s v b) := ⟨chT_good, (show GoodB ⟨0, bkL (100 * s), (bkL (100 * s)).map (fun _ => 250000), 250000, 0, -(25 * s), 0, 0⟩ from ⟨bkL_good (by omega), (by simp), (by intro r hr; simp at hr; obtain ⟨_, rfl⟩ := hr; rfl), rfl, (show (0 : Int) ≤ 0 ∧ (0 : Int) ≤ 100000000000 by decide), (show money (-(25 * s)) = true by simp [money]; omega), (show (0 : Int) ≤ 0 ∧ (0 : Int) ≤ 100000000000 by decide), (show (-100000000000 : Int) ≤ 0 ∧ (0 : Int) ≤ 0 by decide)⟩), GoodV.nil, bkL_good (by omega)⟩
  have e_rt : (ch2A s v b).rt = 250000 := by rfl
  have e_nx : (ch2A s v b).nx = 250000 := by rfl
  have k1 : rateB (ch2A s v b).t (ch2A s v b).x.j (ch2A s v b).yr (ch2A s v b).x.per = true := by rfl
  have k2 : nextE (ch2A s v b).t (ch2A s v b).x.j (ch2A s v b).x.per = 0 := by rfl
  have w1 := ofVal_half (n := (100 * s) + (100 * v)) (r := 300000) (by omega) (by omega) (by omega) (by omega)
  have w2 := ofVal_half (n := (100 * s)) (r := 300000) (by omega) (by omega) (by omega) (by omega)
  have w3 := ofVal_half (n := (100 * s)) (r := 250000) (by omega) (by omega) (by omega) (by omega)
  have w4 := ofVal_half (n := (100 * v)) (r := 300000) (by omega) (by omega) (by omega) (by omega)
  have w5 := ofVal_half (n := (100 * v)) (r := 250000) (by omega) (by omega) (by omega) (by omega)
  have hb : ∀ xs : List STri, (∀ z ∈ xs, z.b = 5) → ratE chT ukS xs 1 = 0 := fun xs h => ratE_ok (by decide) fun z hz => by unfold ratOk; rw [h z hz]; rfl
  have hrow : (ch2A s v b).mov = 100 * v ∧ (ch2A s v b).chgE = 0 ∧ (ch2A s v b).mo = ofVal (100 * s + 100 * v) 300000 - ofVal (100 * s) 300000 ∧ (ch2A s v b).ra = ofVal (100 * s) 300000 - ofVal (100 * s) 250000 ∧ difS (ch2A s v b).rt (ch2A s v b).rows (ch2A s v b).now = apV (100 * v) 300000 (ch2A s v b).rt ∧ ratE (ch2A s v b).t (ch2A s v b).x.j (ch2A s v b).r (ch2A s v b).x.per = 0 ∧ meaE (ch2A s v b).r (ch2A s v b).rats = 0 ∧ (ch2A s v b).rats = (bkL (100 * s + 100 * v)).map (fun _ => 300000) ∧ (ch2A s v b).tm = -(30 * (s + v)) := by
    have hM : money (ofVal (100 * s + 100 * v) 300000 - ofVal (100 * s) 300000) = true := by simp [money]; omega
    have hR : money (ofVal (100 * s) 300000 - ofVal (100 * s) 250000) = true := by simp [money]; omega
    by_cases h0 : s = 0 ∧ v = 0
    · obtain ⟨rfl, rfl⟩ := h0
      have hrows : (ch2A 0 0 b).rows = [] := by rfl
      have hw0 : (ch2A 0 0 b).wb = [] := by rfl
      obtain ⟨q1, q2, q3, q4, q5⟩ := row_case (a := ch2A 0 0 b) (S := 100 * 0) (V := 100 * 0) (N := 300000) (W := 250000) (by omega) (by omega) (by decide) (by decide) hM hR (.inl ⟨rfl, rfl, hrows, by rfl, by rfl⟩) (by rfl) (hb _ (by rw [hw0]; simp))
      exact ⟨q1, q2, q3, q4, q5, by rfl, by rfl, by rfl, by rfl⟩
    · have hr : (ch2A s v b).r = [⟨1, 5, 100 * s + 100 * v⟩] := by show bkL (100 * s + 100 * v) = _; unfold bkL; rw [if_neg (by omega)]
      have hrows : (ch2A s v b).rows = [⟨1, 5, 100 * s, 100 * v, 100 * s + 100 * v⟩] := by
        unfold SArg.rows; rw [hr]
        show fwd (bkL (100 * s)) [⟨1, 5, 100 * s + 100 * v⟩] = _
        by_cases h1 : s = 0
        · subst h1
          show fwd [] [⟨1, 5, 100 * 0 + 100 * v⟩] = _
          rw [fwd_new, wrap64_small (by omega)]
          simp
        · unfold bkL; rw [if_neg (by omega), fwd_both, wrap64_small (by omega)]
          congr 2; omega
      have hwb : (ch2A s v b).wb = [⟨1, 5, 0⟩] := by unfold SArg.wb; rw [hrows]; rfl
      have hnow : (ch2A s v b).now = [300000] := by unfold SArg.now; rw [hwb]; rfl
      have hwas : (ch2A s v b).was = [250000] ∨ (100 * s = 0 ∧ (ch2A s v b).was = [300000]) := by
        by_cases h1 : s = 0
        · subst h1
          exact .inr ⟨rfl, by unfold SArg.was; rw [hrows, hnow]; rfl⟩
        · left
          unfold SArg.was; rw [hrows, hnow]
          show [oldOf ⟨0, bkL (100 * s), (bkL (100 * s)).map (fun _ => 250000), 250000, 0, -(25 * s), 0, 0⟩ _ _] = _
          have hk : bkL (100 * s) = [⟨1, 5, 100 * s⟩] := by unfold bkL; rw [if_neg (by omega)]
          rw [hk]; rfl
      obtain ⟨q1, q2, q3, q4, q5⟩ := row_case (a := ch2A s v b) (S := 100 * s) (V := 100 * v) (N := 300000) (W := 250000) (by omega) (by omega) (by decide) (by decide) hM hR (.inr ⟨hrows, hnow, hwas⟩) (by rfl) (hb _ (by rw [hwb]; simp))
      have hrats : (ch2A s v b).rats = [300000] := by unfold SArg.rats; rw [hr]; rfl
      have hme : meaE (ch2A s v b).r (ch2A s v b).rats = 0 := by
        rw [hr, hrats]; unfold meaE
        rw [if_neg (by simp), if_neg (by simp [meaAll, meaOk, rightRate, money]; omega), if_neg (by simp [meaS, money]; omega)]
      refine ⟨q1, q2, q3, q4, q5, hb _ (by rw [hr]; simp), hme, by rw [hrats]; unfold bkL; rw [if_neg (by omega)]; rfl, ?_⟩
      unfold SArg.tm; rw [meaN_zero hme, hr, hrats]; simp [meaS]; omega
  obtain ⟨n2, n10, n7, n8, n12, n11, n9, n3, n4⟩ := hrow
  have hI : incOk (100 * b) 0 ((100 * v)) = true := by simp [incOk, money]; omega
  have e_inc : (ch2A s v b).inc = 100 * b - (100 * v) := by
    show incV (100 * b) 0 (ch2A s v b).mov = _
    rw [n2]; unfold incV; rw [if_pos hI]; omega
  have e_vec : (ch2A s v b).vec = [] := by
    show curVec [] _ _ _ = []
    unfold curVec; split <;> rfl
  have e_left : (ch2A s v b).left = [] := by
    show curNext [] (ch2A s v b).inc _ _ _ = []
    rw [e_inc]; unfold curNext
    rw [if_pos (by omega)]
    unfold vTake; split <;> rfl
  have e_lf : (ch2A s v b).lf = 0 := by unfold SArg.lf; rw [e_left]; rfl
  have e_new : curNew (ch2A s v b).inc = 0 := by rw [e_inc]; unfold curNew; rw [if_neg (by omega)]
  have e_txb : (ch2A s v b).txb = 100 * b - (100 * v) := by
    show (ch2A s v b).inc - (ch2A s v b).vec.sum + curNew (ch2A s v b).inc = _
    rw [e_new, e_inc, e_vec]; simp
  have w6 := ofVal_half (n := 100 * b - (100 * v)) (r := 250000) (by omega) (by omega) (by omega) (by omega)
  have w7 := ofVal_half (n := 100 * b) (r := 250000) (by omega) (by omega) (by omega) (by omega)
  have e_tax : (ch2A s v b).tax = ofVal (100 * b - (100 * v)) 250000 := by unfold SArg.tax; rw [e_txb, e_rt]
  have e_ls : (ch2A s v b).ls = 0 := by
    unfold SArg.ls; rw [e_lf]
    have := shareV_rng 0 (ch2A s v b).nx; omega
  have e_al : (ch2A s v b).al = 0 := by
    unfold SArg.al; rw [e_ls]
    have := shareV_rng 0 (ch2A s v b).x.judge; omega
  have e_lr : (ch2A s v b).lr = 0 := by
    show ofVal 0 _ - ofVal 0 _ = 0
    rw [ofVal_zero, ofVal_zero]; rfl
  have e_lm : (ch2A s v b).lm = 0 := by
    show 0 - (ch2A s v b).ls - (ch2A s v b).lr = 0
    rw [e_ls, e_lr]; rfl
  have e_am : (ch2A s v b).am = 0 := by
    show 0 - (ch2A s v b).al = 0
    rw [e_al]; rfl
  have e_df : (ch2A s v b).df = 30 * v + 5 * s := by
    unfold SArg.df; rw [n7, n8, e_lr, e_lm, e_am]; omega
  have e_tot : (ch2A s v b).tot = 25 * b + 5 * (v + s) := by
    show (ch2A s v b).tax + (ch2A s v b).df + 0 = _
    rw [e_tax, e_df]; omega
  have m1 : (ch2A s v b).argOk = true := by rfl
  have m2 : (ch2A s v b).knownE = 0 := by
    unfold SArg.knownE
    rw [if_neg (by rw [k1]; decide), if_neg (by rw [k2]; decide)]
    exact n11
  have m3 : (ch2A s v b).taxE = 0 := by
    show curE [] (100 * b) 0 (ch2A s v b).mov 0 0 0 (ch2A s v b).rt = 0
    rw [n2, e_rt]; unfold curE
    rw [if_neg (by decide), if_neg (by rw [hI]; decide), if_neg (by unfold incV; rw [if_pos hI]; omega)]
  have m4 : (ch2A s v b).balE = 0 := by
    unfold SArg.balE
    rw [if_neg (by rw [n9]; decide), e_lf, e_nx, if_neg (by decide), e_ls]
    show shareE 0 0 = 0
    decide
  have m6 : (ch2A s v b).costE = 0 := by
    unfold SArg.costE SArg.costs
    rw [e_lm, e_lr, e_am, e_tax, n4, e_ls, e_al, e_df, e_tot]
    rw [if_pos]
    show List.all [0, 0, 0, _ + 0, _ - (-(25 * s)), 0 - 0, 0 - 0, _, _] money = true
    simp only [List.all_cons, List.all_nil, money, Bool.and_true, Bool.and_eq_true, decide_eq_true_eq]
    omega
  have hz : (ch2A s v b).makE = 0 := by
    unfold SArg.makE
    rw [if_neg (by rw [m1]; decide), if_neg (by rw [m2]; decide), if_neg (by rw [m3]; decide), if_neg (by rw [m4]; decide), if_neg (by rw [n10]; decide), m6]
  have i1 : (ch2A s v b).i1 = ofVal (100 * b) 250000 := by show ofVal (100 * b) (ch2A s v b).rt = _; rw [e_rt]
  have i2 : (ch2A s v b).i2 = 0 := by show ofVal 0 _ = 0; exact ofVal_zero _
  have i6 : (ch2A s v b).i6 = 0 := by show ofVal (vGone [] _) _ = 0; exact ofVal_zero _
  have i4 : (ch2A s v b).i4 = (ch2A s v b).ra := by unfold SArg.i4; rw [e_lr, Int.add_zero]
  have i3 : (ch2A s v b).dif = apV ((100 * v)) 300000 250000 := by
    show apV ((ch2A s v b).vec.sum - curNew (ch2A s v b).inc) (ch2A s v b).nx (ch2A s v b).rt + difS (ch2A s v b).rt (ch2A s v b).rows (ch2A s v b).now = _
    rw [e_rt, e_nx] at *
    rw [n12, e_vec, e_new]
    unfold apV
    simp
  have i8 : (ch2A s v b).i8 = (ch2A s v b).tot - ((ch2A s v b).i1 + (ch2A s v b).i2 + (ch2A s v b).dif + (ch2A s v b).i4 + (ch2A s v b).am + (ch2A s v b).i6 + 0) := rfl
  refine ⟨⟨g, hz⟩, e_tot, by unfold SArg.clo; rw [n3, e_nx, e_lf, n4, e_ls, e_al]; rfl, e_left, ?_⟩
  unfold SArg.itemL
  rw [i8, i3, i4, e_am, e_tot, i1, i2, i6, n8, show (ch2A s v b).x.up = 0 from rfl]
  simp only [List.cons.injEq, SItem.mk.injEq, true_and, and_true]
  unfold apV
  refine ⟨?_, ?_, ?_, ?_⟩ <;> omega

end Go.Sl
end
section
/- The walk of ReconChange. -/
namespace Go.Proofs.YtnfedcaehkcffaaGreat
open Go.RowKit Go.Sl
set_option maxHeartbeats 24000000
set_option maxRecDepth 100000
set_option linter.unusedSimpArgs false
theorem reconChange_calls (z0 z1 z2 : Int) (w : World) :
    Calls Tryz.prog 10 #[.int .i64 z0, .int .i64 z1, .int .i64 z2] w fun e w' => e = .returned (.bool true) ∧ Below w.heap.size w w' := by
  have WC0 := fun W => within_calls z0 100000 W (by omega) (by omega)
  have WC1 := fun W => within_calls z1 1000 W (by omega) (by omega)
  have WC2 := fun W => within_calls z2 1000 W (by omega) (by omega)
  have p1 := within_lo z0 (n := 100000) (by omega)
  have p2 := within_hi z0 (n := 100000) (by omega)
  have q1 := within_lo z1 (n := 1000) (by omega)
  have q2 := within_hi z1 (n := 1000) (by omega)
  have k1 := within_lo z2 (n := 1000) (by omega)
  have k2 := within_hi z2 (n := 1000) (by omega)
  generalize within z0 100000 = p at *
  generalize within z1 1000 = s at *
  generalize within z2 1000 = v at *
  obtain ⟨b, hb⟩ : ∃ b, Hid (b = p + 50000) := ⟨_, rfl⟩
  have hb1 : 50000 ≤ b ∧ b < 150000 := by rw [hb.out]; omega
  have F1 := ch1 (s := s) (b := b) (by omega) hb1
  have F2 := ch2 (s := s) (v := v) (b := b) (by omega) (by omega) hb1
  unfold ch1A at F1
  unfold ch2A at F2
  obtain ⟨bk, hbk⟩ : ∃ B, 100 * b = B := ⟨_, rfl⟩
  obtain ⟨S, hS⟩ : ∃ B, 100 * s = B := ⟨_, rfl⟩
  obtain ⟨V, hV⟩ : ∃ B, 100 * v = B := ⟨_, rfl⟩
  obtain ⟨b25, hb25⟩ : ∃ B, 25 * b = B := ⟨_, rfl⟩
  obtain ⟨s25, hs25⟩ : ∃ B, 25 * s = B := ⟨_, rfl⟩
  obtain ⟨s5, hs5⟩ : ∃ B, 5 * s = B := ⟨_, rfl⟩
  obtain ⟨v5, hv5⟩ : ∃ B, 5 * v = B := ⟨_, rfl⟩
  obtain ⟨t5, ht5⟩ : ∃ B, 5 * (v + s) = B := ⟨_, rfl⟩
  obtain ⟨x30, hx30⟩ : ∃ B, -(30 * (s + v)) = B := ⟨_, rfl⟩
  rw [hbk, hS, hb25, hs25] at F1
  rw [hbk, hS, hV, hb25, hs25, hs5, hv5, ht5, hx30] at F2
  have e1 : 100 * p + 5000000 = bk := by rw [← hbk, hb.out]; omega
  have bbk : 5000000 ≤ bk ∧ bk ≤ 15000000 := by omega
  have bS : 0 ≤ S ∧ S ≤ 100000 := by omega
  have bV : 0 ≤ V ∧ V ≤ 100000 := by omega
  have v1 : bk.tdiv 4 = b25 := by rw [← hbk, ← hb25, show 100 * b = 25 * b * 4 by omega, Int.mul_tdiv_cancel _ (by decide)]
  have v2 : V.tdiv 20 = v5 := by rw [← hV, ← hv5, show 100 * v = 5 * v * 20 by omega, Int.mul_tdiv_cancel _ (by decide)]
  have v3 : S.tdiv 20 = s5 := by rw [← hS, ← hs5, show 100 * s = 5 * s * 20 by omega, Int.mul_tdiv_cancel _ (by decide)]
  have v4 : (V + S).tdiv 20 = t5 := by rw [← hS, ← hV, ← ht5, show 100 * v + 100 * s = 5 * (v + s) * 20 by omega, Int.mul_tdiv_cancel _ (by decide)]
  have y1 : wrap64 b25 = b25 := wrap64_small (by omega)
  have y2 : wrap64 v5 = v5 := wrap64_small (by omega)
  have y3 : wrap64 s5 = s5 := wrap64_small (by omega)
  have y4 : wrap64 t5 = t5 := wrap64_small (by omega)
  have b1 : 0 ≤ b25 ∧ b25 ≤ 4000000 := by omega
  have b2 : 0 ≤ t5 ∧ t5 ≤ 100000 := by omega
  obtain ⟨g1, o1, c1, l1, _⟩ := F1
  obtain ⟨g2, o2, _, _, i2⟩ := F2
  obtain ⟨u, hu⟩ : ∃ u, Hid ((⟨chT, ⟨ukS, 0, bk, 0, 0, 0, 0, 0⟩, balNone, [], bkL S⟩ : SArg).out = u) := ⟨_, rfl⟩
  have ho : u.clo 0 (bkL S) = ⟨0, bkL S, (bkL S).map (fun _ => 250000), 250000, 0, -s25, 0, 0⟩ := (clo_out hu.out).symm.trans c1
  rw [← ho] at g2 o2 i2
  obtain ⟨u2, hu2⟩ : ∃ u2, Hid ((⟨chT, ⟨ukS, 1, bk, 0, 0, 0, 0, 0⟩, u.clo 0 (bkL S), [], bkL (S + V)⟩ : SArg).out = u2) := ⟨_, rfl⟩
  have r1 : u.tot = b25 := by rw [← hu.out]; exact o1
  have r2 : u2.tot = b25 + t5 := by rw [← hu2.out]; exact o2
  have x1 : (u.tot != b25) = false := by simp [r1]
  have x2 : (u2.tot == b25 + t5) = true := by simp [r2]
  have s0 : Hid (u.left = []) := by unfold Hid; rw [← hu.out]; exact l1
  have I2 := Lib.hid i2
  have M1 := Lib.hid g1.z
  have M2 := Lib.hid g2.z
  obtain ⟨w1', w2', _⟩ := oneT_good (R := 250000) (by decide)
  have H1 := Lib.hid w1'
  have H2 := Lib.hid w2'
  have CT := Lib.hid chT_ok
  have HV1 : Hid (moveE [] 1 5 S = 0 ∧ moveR [] 1 5 S = bkL S) := by
    have h := mv_bk (S := 0) (V := S) (by omega) (by omega)
    rw [Int.zero_add] at h
    exact h
  have HV2 := Lib.hid (mv_bk (S := S) (V := V) (by omega) (by omega))
  have E0 := Env.start w
  replace ho := Lib.hid ho
  clear r1 r2 o1 c1 l1 o2 i2 hbk hb25 hs25 hs5 hv5 ht5 hx30 w1' w2'
  have hbl : (bkL S).length ≤ 1 := by unfold bkL; split <;> simp
  generalize hbs : bkL S = bs at *
  generalize hbt : bkL (S + V) = bt at *
  replace hbs := Lib.hid hbs
  replace hbt := Lib.hid hbt
  go_enter Tryz.func10, Tryz.ntmps10
  go_wp2_with fail
  refine (Tab.new E0).mono ?_
  rintro e w1 ⟨h1, b1', rfl, S1, E1⟩
  try simp at E1
  go_wp2_with fail
  refine (Regi.new E1).mono ?_
  rintro e w2 ⟨h2, b2', rfl, SR, E2⟩
  try simp at E2
  go_wp2_with fail
  refine (Vnt.new E2).mono ?_
  rintro e w3 ⟨h3, b3, rfl, SV, E3⟩
  try simp at E3
  go_wp2_with fail
  refine (Tab.add S1 E3 0 rfl ukS 0 250000 0 ⟨H1.out, H2.out⟩).mono ?_
  rintro e w4 ⟨h4, rfl, ST, E4⟩
  simp at E4
  go_wp2_with fail
  refine (Tab.add ST E4 0 rfl ukS 4 300000 1 CT.out).mono ?_
  rintro e w5 ⟨h5, rfl, ST, E5⟩
  simp at E5
  go_wp2_with fail
  refine (WC0 _).mono ?_
  rintro e w' ⟨rfl, rfl⟩
  go_wp2_with fail
  refine (WC1 _).mono ?_
  rintro e w' ⟨rfl, rfl⟩
  go_wp2_with fail
  refine (WC2 _).mono ?_
  rintro e w' ⟨rfl, rfl⟩
  go_wp2_with fail
  refine (Regi.move SR E5 1 rfl 1 5 S HV1.out).mono ?_
  rintro e w6 ⟨h6, rfl, SR6, E6⟩
  simp at E6
  go_wp2_with fail
  refine (closingNone_calls _).mono ?_
  rintro e w7 ⟨rfl, B7⟩
  replace E6 := E6.below B7
  go_wp2_with fail
  refine (Mk.ok (x := ⟨ukS, 0, bk, 0, 0, 0, 0, 0⟩) (o := balNone) (A := none) (B := none) (ca := 0) (cb := 0) (hx := Hp.none) (hs := Hp.none) E6 g1.toGoodA M1 hu (E6.sub 0 rfl) (Hp.none_sub _) (Hp.none_sub _) (E6.sub 2 rfl) (E6.sub 1 rfl) ST.pt (Sl.none _ _) (Sl.none _ _) SV SR6).mono ?_
  rintro e w8 ⟨ha, hla, bla, Da, cda, Ga, cga, Ra, cra, Qa, cqa, Va, cva, Ca, cwa, Na, cna, rfl, _, _, sR, sQ, _, _, _, SL, E8⟩
  simp at E8
  go_upto_region 7 with (refine wpList_store_env rfl (E8.box0 [.string ⟨#[]⟩, .int .i64 0, .int .i64 0, .int .i64 0, .int .i64 0, .int .i64 0, .int .i64 0, .int .i64 0, .int .i64 0, .int .i64 0, .slice none 0 0, .slice none 0 0, .int .i64 0, .int .i64 0, .int .i64 0, .int .i64 0, .int .i64 0, .int .i64 0, .slice none 0 0, .slice none 0 0, .int .i64 0, .int .i64 0, .int .i64 0, .int .i64 0, .int .i64 0, .int .i64 0, .int .i64 0, .int .i64 0, .int .i64 0, .int .i64 0, .int .i64 0, .slice none 0 0, .slice none 0 0, .slice none 0 0, .int .i64 0, .int .i64 0, .int .i64 0, .int .i64 0, .int .i64 0, .int .i64 0, .int .i64 0] 44) 0 rfl 44 _ _ rfl 0 _ rfl rfl (by simp) (by kernel_rfl) (by simp [Value.oneCell']) ?_; intro W9 E9)
  simp at E9
  have c40 := E9.cell 0 rfl 40 rfl
  go_wp2_with fail
  refine (Regi.move SR6 E9 2 rfl 1 5 V HV2.out).mono ?_
  rintro e w10 ⟨h10, rfl, SR10, E10⟩
  simp at E10
  rw [s0.out] at SL
  clear c40
  go_wp2_with (refine wpList_load_mid rfl 37 _ rfl w8.heap.size 17 rfl _ _ (E10.rangeMid 0 rfl 17 [.int .i64 0, .slice Ra bs.length cra, .slice Qa u.rats.length cqa, .int .i64 u.nx, .int .i64 u.lf, .int .i64 u.tm, .int .i64 u.ls, .int .i64 u.al] rfl) Tryz.underlying37 rfl (by kernel_rfl) ?_)
  refine (Mk.ok (x := ⟨ukS, 1, bk, 0, 0, 0, 0, 0⟩) (o := u.clo 0 bs) E10 g2.toGoodA M2 hu2 (E10.sub 1 rfl) (E10.sub 4 rfl) (E10.sub 4 rfl) (E10.sub 5 rfl) (E10.sub 2 rfl) ST.pt sR sQ SL SR10).mono ?_
  rintro e w11 ⟨hb, hlb, blb, Db, cdb, Gb, cgb, Rb, crb, Qb, cqb, Vb, cvb, Cb, cwb, Nb, cnb, rfl, _, _, _, _, _, sCb, sNb, _, E11⟩
  simp at E11
  go_upto_region 11 with (refine wpList_store_env rfl (E11.box0 [.string ⟨#[]⟩, .int .i64 0, .int .i64 0, .int .i64 0, .int .i64 0, .int .i64 0, .int .i64 0, .int .i64 0, .int .i64 0, .int .i64 0, .slice none 0 0, .slice none 0 0, .int .i64 0, .int .i64 0, .int .i64 0, .int .i64 0, .int .i64 0, .int .i64 0, .slice none 0 0, .slice none 0 0, .int .i64 0, .int .i64 0, .int .i64 0, .int .i64 0, .int .i64 0, .int .i64 0, .int .i64 0, .int .i64 0, .int .i64 0, .int .i64 0, .int .i64 0, .slice none 0 0, .slice none 0 0, .slice none 0 0, .int .i64 0, .int .i64 0, .int .i64 0, .int .i64 0, .int .i64 0, .int .i64 0, .int .i64 0] 44) 0 rfl 44 _ _ rfl 0 _ rfl rfl (by simp) (by kernel_rfl) (by simp [Value.oneCell']) ?_; intro W12 E12)
  simp at E12
  go_wp2_with (refine wpList_load_env (by rfl) E12 0 rfl 44 _ rfl rfl Tryz.underlying44 rfl (by kernel_rfl) ?_)
  refine (Mk.items g2 hu2 E12 (E12.sub 7 rfl) sCb sNb I2).mono ?_
  rintro e w13 ⟨D13, cd13, h13, rfl, oi, E13⟩
  simp at E13
  have E14 := E13.box0 [.int .i64 1, .int .i64 b25, .int .i64 2, .int .i64 0, .int .i64 3, .int .i64 v5, .int .i64 4, .int .i64 s5, .int .i64 5, .int .i64 0, .int .i64 6, .int .i64 0, .int .i64 7, .int .i64 0, .int .i64 8, .int .i64 0] 61
  have sy : Sl kItem (Hp.box w13.heap.size [.int .i64 1, .int .i64 b25, .int .i64 2, .int .i64 0, .int .i64 3, .int .i64 v5, .int .i64 4, .int .i64 s5, .int .i64 5, .int .i64 0, .int .i64 6, .int .i64 0, .int .i64 7, .int .i64 0, .int .i64 8, .int .i64 0] 61) (some ⟨w13.heap.size, 0, none⟩) 8 [⟨1, b25⟩, ⟨2, 0⟩, ⟨3, v5⟩, ⟨4, s5⟩, ⟨5, 0⟩, ⟨6, 0⟩, ⟨7, 0⟩, ⟨8, 0⟩] := Sl.litItem (fr := (0, 0)) (Hp.one_self _ _) rfl (by decide)
  have SM := fun (W : World) (h1 : h13.sub W) (h2 : (Hp.box w13.heap.size [.int .i64 1, .int .i64 b25, .int .i64 2, .int .i64 0, .int .i64 3, .int .i64 v5, .int .i64 4, .int .i64 s5, .int .i64 5, .int .i64 0, .int .i64 6, .int .i64 0, .int .i64 7, .int .i64 0, .int .i64 8, .int .i64 0] 61).sub W) => same_item D13 _ cd13 8 _ _ h13 _ W h1 h2 oi.sl sy
  rw [eqB_t rfl] at SM
  go_wp2_with fail
  refine (SM _ (E14.sub 10 rfl) (E14.sub 0 rfl)).mono ?_
  rintro e w15 ⟨rfl, B15⟩
  have E15 := E14.below B15
  have d40 := E15.cell 1 rfl 40 rfl
  clear SM sy E14 E13 E12
  go_wp2_with fail
  refine (wakes21 _).mono ?_
  rintro e w16 ⟨rfl, B16⟩
  go_wp2
  go_ret
  exact ⟨rfl, (E15.below B16).low⟩
end Go.Proofs.YtnfedcaehkcffaaGreat
end
