/- Walks and plain facts that the laws of this seat share, part 20: contracts of functions, each said at its theorem. -/
import Derived.Test.YtnfedcaehkcffaaGreatPk19
set_option linter.all false
section
/- A loss that is made, and used, or expires: plain. No program is named here. -/
namespace Go.Sl
open Go Go.RowKit
/-- Closes without buckets, now and before. -/
theorem no_rows {a : SArg} (ho : a.o.xs = []) (hr : a.r = []) (hp : perOk a.x.per = true) : a.rows = [] ∧ a.mov = 0 ∧ a.rats = [] ∧ a.tm = 0 ∧ a.now = [] ∧ a.was = [] ∧ a.mo = 0 ∧ a.ra = 0 ∧ meaE a.r a.rats = 0 ∧ a.chgE = 0 ∧ ratE a.t a.x.j a.r a.x.per = 0 := by
  have h1 : a.rows = [] := by unfold SArg.rows; rw [ho, hr]; rfl
  have h2 : a.rats = [] := by unfold SArg.rats; rw [hr]; rfl
  have h3 : a.wb = [] := by unfold SArg.wb; rw [h1]; rfl
  have h4 : a.now = [] := by unfold SArg.now; rw [h3]; rfl
  have h5 : a.was = [] := by unfold SArg.was; rw [h1]; rfl
  have h6 : remE [] [] [] = 0 := by decide
  have e : ∀ xs, xs = [] → ratE a.t a.x.j xs a.x.per = 0 := fun xs h => by subst h; exact ratE_ok hp (by simp)
  refine ⟨h1, ?_, h2, ?_, h4, h5, ?_, ?_, ?_, ?_, e _ hr⟩
  · unfold SArg.mov; rw [h1]; rfl
  · unfold SArg.tm; rw [hr, h2]; rfl
  · unfold SArg.mo; rw [h1, h4, h5]; rfl
  · unfold SArg.ra; rw [h1, h4, h5]; rfl
  · rw [hr, h2]; decide
  · unfold SArg.chgE; rw [if_neg (by rw [e _ h3]; decide), h1, h4, h5]; exact h6
theorem ofVal_fifth {n : Int} (hn : 0 ≤ n ∧ n ≤ 100000) : ofVal (500 * n) 200000 = 100 * n := by
  have h := ofVal_half (n := 500 * n) (r := 200000) (by omega) (by omega) (by omega) (by omega)
  omega
def loA (n j : Int) : SArg := ⟨oneT 200000, ⟨ukS, 0, -(500 * n), 0, 10000 * j, 1000000, 2, 0⟩, balNone, [], []⟩
theorem lo1 {n j : Int} (hn : 1 ≤ n ∧ n ≤ 100000) (hj : 0 ≤ j ∧ j ≤ 100) :
    GoodA (loA n j) ∧ (loA n j).makE = 0 ∧ (loA n j).tax = 0 ∧ (loA n j).ls = 100 * n ∧ (loA n j).al = -(n * j) ∧ (loA n j).df = n * j - 100 * n ∧ (loA n j).lm = -(100 * n) ∧ (loA n j).am = n * j ∧ (loA n j).clo = (⟨0, [], [], 200000, 500 * n, 0, 100 * n, -(n * j)⟩ : SBal) ∧ (loA n j).left = [⟨0, 2, 500 * n⟩] := by
  have q1 : 0 ≤ n * j := Int.mul_nonneg (by omega) hj.1
  have q2 : n * j ≤ n * 100 := Int.mul_le_mul_of_nonneg_left hj.2 (by omega)
  obtain ⟨h1, h2, h3, h4, h5⟩ := one_all (R := 200000) (p := 0) (by decide)
  have g : GoodA (loA n j) := ⟨(oneT_good (by decide)).2.2, GoodB.none, GoodV.nil, GoodR.nil⟩
  obtain ⟨n1, n2, n3, n4, n5, n6, n7, n8, n9, n10, n11⟩ := no_rows (a := loA n j) rfl rfl rfl
  have hI : incOk (-(500 * n)) 0 0 = true := by simp [incOk, money]; omega
  have e_inc : (loA n j).inc = -(500 * n) := by
    show incV (-(500 * n)) 0 (loA n j).mov = _
    rw [n2]; unfold incV; rw [if_pos hI]; omega
  have hA : vAddE [] 0 2 (500 * n) = 0 := by
    unfold vAddE; simp [vOk, money, sumC]; omega
  have e_vec : (loA n j).vec = [] := by
    show curVec [] (loA n j).inc _ _ = []
    rw [e_inc]; unfold curVec; rw [if_neg (by omega)]
  have hp : putV [] 0 2 (getV [] 0 2 + 500 * n) = [⟨0, 2, 500 * n⟩] := by
    show putV [] 0 2 (0 + 500 * n) = _
    rw [Int.zero_add]; rfl
  have e_left : (loA n j).left = [⟨0, 2, 500 * n⟩] := by
    show curNext [] (loA n j).inc _ 2 0 = _
    rw [e_inc]; unfold curNext
    rw [if_neg (by omega), if_pos (by omega), Int.neg_neg]
    show vAdd [] 0 (0 + 2) (500 * n) = _
    unfold vAdd
    rw [show (0 : Int) + 2 = 2 from rfl, if_pos hA, hp]
  have e_lf : (loA n j).lf = 500 * n := by unfold SArg.lf; rw [e_left]; simp [sumC]
  have e_tax : (loA n j).tax = 0 := by
    unfold SArg.tax
    have : (loA n j).txb = 0 := by
      show (loA n j).inc - (loA n j).vec.sum + curNew (loA n j).inc = _
      rw [e_inc, e_vec]; unfold curNew; rw [if_pos (by omega)]; simp; omega
    rw [this, ofVal_zero]
  have e_nx : (loA n j).nx = 200000 := h4
  have s1 : shareE (500 * n) 200000 = 0 := by unfold shareE; rw [if_pos]; simp [money, rightRate]; omega
  have e_ls : (loA n j).ls = 100 * n := by
    unfold SArg.ls; rw [e_lf, e_nx]; unfold shareV; rw [if_pos s1]; exact ofVal_fifth (by omega)
  have s2 : shareE (100 * n) (10000 * j) = 0 := by unfold shareE; rw [if_pos]; simp [money, rightRate]; omega
  have e_al : (loA n j).al = -(n * j) := by
    show -shareV (loA n j).ls (10000 * j) = _
    rw [e_ls]; unfold shareV; rw [if_pos s2, ofVal_100 (by omega) hj]
  have e_lr : (loA n j).lr = 0 := by
    show ofVal 0 _ - ofVal 0 _ = 0
    rw [ofVal_zero, ofVal_zero]; rfl
  have e_lm : (loA n j).lm = -(100 * n) := by
    show 0 - (loA n j).ls - (loA n j).lr = _
    rw [e_ls, e_lr]; omega
  have e_am : (loA n j).am = n * j := by
    show 0 - (loA n j).al = _
    rw [e_al]; omega
  have e_df : (loA n j).df = n * j - 100 * n := by
    unfold SArg.df; rw [n7, n8, e_lm, e_lr, e_am]; omega
  have e_tot : (loA n j).tot = n * j - 100 * n := by
    show (loA n j).tax + (loA n j).df + 0 = _
    rw [e_tax, e_df]; omega
  refine ⟨g, ?_, e_tax, e_ls, e_al, e_df, e_lm, e_am, by unfold SArg.clo; rw [n3, e_nx, e_lf, n4, e_ls, e_al]; rfl, e_left⟩
  have rJ : rightRate (10000 * j) = true := by simp [rightRate]; omega
  have m1 : (loA n j).argOk = true := by show (perOk 0 && (rightRate (10000 * j) && money 0)) = true; rw [rJ]; decide
  have m2 : (loA n j).knownE = 0 := by
    unfold SArg.knownE
    rw [if_neg (by rw [show rateB (loA n j).t (loA n j).x.j (loA n j).yr (loA n j).x.per = true from h2]; decide), if_neg (by rw [show nextE (loA n j).t (loA n j).x.j (loA n j).x.per = 0 from h3]; decide)]
    exact n11
  have m3 : (loA n j).taxE = 0 := by
    show curE [] (-(500 * n)) 0 (loA n j).mov 1000000 2 0 (loA n j).rt = 0
    rw [n2, show (loA n j).rt = 200000 from h1]
    unfold curE
    have hv : incV (-(500 * n)) 0 0 = -(500 * n) := by unfold incV; rw [if_pos hI]; omega
    rw [if_neg (by decide), if_neg (by rw [hI]; decide), hv, if_pos (by omega), Int.neg_neg]
    exact hA
  have m4 : (loA n j).balE = 0 := by
    unfold SArg.balE
    rw [if_neg (by rw [n9]; decide), e_lf, e_nx, if_neg (by rw [s1]; decide), e_ls]
    exact s2
  have m6 : (loA n j).costE = 0 := by
    unfold SArg.costE SArg.costs
    rw [e_lm, e_lr, e_am, e_tax, n4, e_ls, e_al, e_df, e_tot]
    rw [if_pos]
    show List.all [_, 0, _, 0 + 0, 0 - 0, _ - 0, _ - 0, _, _] money = true
    simp [money]; omega
  unfold SArg.makE
  rw [if_neg (by rw [m1]; decide), if_neg (by rw [m2]; decide), if_neg (by rw [m3]; decide), if_neg (by rw [m4]; decide), if_neg (by rw [n10]; decide), m6]
def loB (P n j : Int) : SArg := ⟨oneT 200000, ⟨ukS, P, 500 * n, 0, 10000 * j, 1000000, 2, 0⟩, ⟨0, [], [], 200000, 500 * n, 0, 100 * n, -(n * j)⟩, [⟨0, 2, 500 * n⟩], []⟩
theorem lo2 {P n j : Int} (hP : 1 ≤ P ∧ P ≤ 20) (hn : 1 ≤ n ∧ n ≤ 100000) (hj : 0 ≤ j ∧ j ≤ 100) :
    GoodA (loB P n j) ∧ (loB P n j).makE = 0 ∧ (loB P n j).tax = (if 12 ≤ P then 100 * n else 0) ∧ (loB P n j).vec.sum = (if 12 ≤ P then 0 else 500 * n) ∧ vGone (loB P n j).v (loB P n j).yr = (if 12 ≤ P then 500 * n else 0) ∧ (loB P n j).ls = 0 ∧ (loB P n j).al = 0 ∧ (loB P n j).df = 100 * n - n * j ∧ (loB P n j).tot = (if 12 ≤ P then 100 * n else 0) + 100 * n - n * j ∧ (loB P n j).left = [] := by
  have q1 : 0 ≤ n * j := Int.mul_nonneg (by omega) hj.1
  have q2 : n * j ≤ n * 100 := Int.mul_le_mul_of_nonneg_left hj.2 (by omega)
  have hp : perOk P = true := by simp [perOk]; omega
  obtain ⟨_, _, hyr, _⟩ := per_year hp
  obtain ⟨h1, h2, h3, h4, h5⟩ := one_all (R := 200000) (p := P) hp
  have gb : GoodB ⟨0, [], [], 200000, 500 * n, 0, 100 * n, -(n * j)⟩ := ⟨GoodR.nil, rfl, (by simp), rfl, (show (0 : Int) ≤ 500 * n ∧ 500 * n ≤ 100000000000 by omega), rfl, (show (0 : Int) ≤ 100 * n ∧ 100 * n ≤ 100000000000 by omega), (show (-100000000000 : Int) ≤ -(n * j) ∧ -(n * j) ≤ 0 by omega)⟩
  have gv : GoodV [⟨0, 2, 500 * n⟩] := by
    refine ⟨List.pairwise_singleton _ _, ?_, ?_, ?_, ?_⟩
    all_goals first
      | (intro b hb; simp at hb; subst hb; first | (show vOk 0 2 = true; decide) | (show 1 ≤ 500 * n; omega))
      | (simp [sumC]; omega)
      | simp
  have g : GoodA (loB P n j) := ⟨(oneT_good (by decide)).2.2, gb, gv, GoodR.nil⟩
  obtain ⟨n1, n2, n3, n4, n5, n6, n7, n8, n9, n10, n11⟩ := no_rows (a := loB P n j) rfl rfl hp
  have hI : incOk (500 * n) 0 0 = true := by simp [incOk, money]; omega
  have e_inc : (loB P n j).inc = 500 * n := by
    show incV (500 * n) 0 (loB P n j).mov = _
    rw [n2]; unfold incV; rw [if_pos hI]; omega
  have e_yr : (loB P n j).yr = P / 4 := hyr
  have hroom : roomV (500 * n) 1000000 = 500 * n := by
    unfold roomV; rw [if_neg (by omega)]; unfold floorV floorOk
    rw [if_pos (by simp; omega)]
    exact Int.mul_tdiv_cancel _ (by decide)
  have key : (loB P n j).vec.sum = (if 12 ≤ P then 0 else 500 * n) ∧ vGone (loB P n j).v (loB P n j).yr = (if 12 ≤ P then 500 * n else 0) ∧ (loB P n j).left = [] := by
    rw [e_yr]
    show (curVec [⟨0, 2, 500 * n⟩] (loB P n j).inc 1000000 (loB P n j).yr).sum = _ ∧ vGone [⟨0, 2, 500 * n⟩] (P / 4) = _ ∧ curNext [⟨0, 2, 500 * n⟩] (loB P n j).inc 1000000 2 (loB P n j).yr = _
    rw [e_inc, e_yr]
    by_cases h12 : 12 ≤ P
    · have hov : overV (P / 4) ⟨0, 2, 500 * n⟩ = true := by simp [overV]; omega
      have hx : vExp [⟨0, 2, 500 * n⟩] (P / 4) = [] := by simp [vExp, hov]
      have hc : curVec [⟨0, 2, 500 * n⟩] (500 * n) 1000000 (P / 4) = [] := by unfold curVec; rw [if_pos (by omega), hx]; rfl
      rw [if_pos h12, if_pos h12, hc]
      refine ⟨rfl, by simp [vGone, hov, sumC], ?_⟩
      unfold curNext; rw [if_pos (by omega), hx, hc]; unfold vTake; split <;> rfl
    · have hov : overV (P / 4) ⟨0, 2, 500 * n⟩ = false := by simp [overV]; omega
      have hx : vExp [⟨0, 2, 500 * n⟩] (P / 4) = [⟨0, 2, 500 * n⟩] := by simp [vExp, hov]
      have hc : curVec [⟨0, 2, 500 * n⟩] (500 * n) 1000000 (P / 4) = [500 * n] := by
        unfold curVec; rw [if_pos (by omega), hx, hroom]
        show [useOf (P / 4) ⟨0, 2, 500 * n⟩ (max 0 (500 * n))] = _
        unfold useOf; rw [if_pos (by show P / 4 ≤ 2; omega)]
        congr 1; show min (500 * n) (max 0 (500 * n)) = _; omega
      rw [if_neg h12, if_neg h12, hc]
      refine ⟨by simp, by simp [vGone, hov, sumC], ?_⟩
      unfold curNext; rw [if_pos (by omega), hx, hc]
      have ht : vTakeE [⟨0, 2, 500 * n⟩] [500 * n] = 0 := by
        unfold vTakeE; rw [if_pos]
        simp [badU]; omega
      unfold vTake; rw [if_pos ht]
      simp [lessV, zeroB]
  obtain ⟨e_usd, e_gon, e_left⟩ := key
  have e_lf : (loB P n j).lf = 0 := by unfold SArg.lf; rw [e_left]; rfl
  have e_tax : (loB P n j).tax = (if 12 ≤ P then 100 * n else 0) := by
    unfold SArg.tax
    have : (loB P n j).txb = (if 12 ≤ P then 500 * n else 0) := by
      show (loB P n j).inc - (loB P n j).vec.sum + curNew (loB P n j).inc = _
      rw [e_inc, e_usd, show curNew (500 * n) = 0 from by unfold curNew; rw [if_neg (by omega)]]
      by_cases h12 : 12 ≤ P
      · rw [if_pos h12, if_pos h12]; omega
      · rw [if_neg h12, if_neg h12]; omega
    rw [this, show (loB P n j).rt = 200000 from h1]
    split
    · exact ofVal_fifth (by omega)
    · exact ofVal_zero _
  have e_nx : (loB P n j).nx = 200000 := h4
  have e_ls : (loB P n j).ls = 0 := by
    unfold SArg.ls; rw [e_lf]
    have := shareV_rng 0 (loB P n j).nx; omega
  have e_al : (loB P n j).al = 0 := by
    unfold SArg.al; rw [e_ls]
    have := shareV_rng 0 (loB P n j).x.judge; omega
  have e_lr : (loB P n j).lr = 0 := by
    show ofVal (500 * n) 200000 - ofVal (500 * n) (loB P n j).nx = 0
    rw [e_nx]; omega
  have e_lm : (loB P n j).lm = 100 * n := by
    show 100 * n - (loB P n j).ls - (loB P n j).lr = _
    rw [e_ls, e_lr]; omega
  have e_am : (loB P n j).am = -(n * j) := by
    show -(n * j) - (loB P n j).al = _
    rw [e_al]; omega
  have e_df : (loB P n j).df = 100 * n - n * j := by
    unfold SArg.df; rw [n7, n8, e_lm, e_lr, e_am]; omega
  have e_tot : (loB P n j).tot = (if 12 ≤ P then 100 * n else 0) + 100 * n - n * j := by
    show (loB P n j).tax + (loB P n j).df + 0 = _
    rw [e_tax, e_df]
    generalize (if 12 ≤ P then 100 * n else 0) = zz
    omega
  refine ⟨g, ?_, e_tax, e_usd, e_gon, e_ls, e_al, e_df, e_tot, e_left⟩
  have rJ : rightRate (10000 * j) = true := by simp [rightRate]; omega
  have m1 : (loB P n j).argOk = true := by show (perOk P && (rightRate (10000 * j) && money 0)) = true; rw [rJ, hp]; decide
  have m2 : (loB P n j).knownE = 0 := by
    unfold SArg.knownE
    rw [if_neg (by rw [show rateB (loB P n j).t (loB P n j).x.j (loB P n j).yr (loB P n j).x.per = true from h2]; decide), if_neg (by rw [show nextE (loB P n j).t (loB P n j).x.j (loB P n j).x.per = 0 from h3]; decide)]
    exact n11
  have m3 : (loB P n j).taxE = 0 := by
    show curE [⟨0, 2, 500 * n⟩] (500 * n) 0 (loB P n j).mov 1000000 2 (loB P n j).yr (loB P n j).rt = 0
    rw [n2, show (loB P n j).rt = 200000 from h1, e_yr]
    unfold curE
    have hv : incV (500 * n) 0 0 = 500 * n := by unfold incV; rw [if_pos hI]; omega
    rw [if_neg (by simp [curArg, rightRate]; omega), if_neg (by rw [hI]; decide), hv, if_neg (by omega)]
  have m4 : (loB P n j).balE = 0 := by
    unfold SArg.balE
    have s1 : shareE 0 200000 = 0 := by decide
    rw [if_neg (by rw [n9]; decide), e_lf, e_nx, if_neg (by rw [s1]; decide), e_ls]
    show shareE 0 (10000 * j) = 0
    unfold shareE; rw [rJ]; rfl
  have m6 : (loB P n j).costE = 0 := by
    unfold SArg.costE SArg.costs
    rw [e_lm, e_lr, e_am, e_tax, n4, e_ls, e_al, e_df, e_tot]
    rw [if_pos]
    show List.all [_, 0, _, _ + 0, 0 - 0, 0 - 100 * n, 0 - (-(n * j)), _, _] money = true
    simp only [List.all_cons, List.all_nil, money, Bool.and_true, Bool.and_eq_true, decide_eq_true_eq]
    split <;> omega
  unfold SArg.makE
  rw [if_neg (by rw [m1]; decide), if_neg (by rw [m2]; decide), if_neg (by rw [m3]; decide), if_neg (by rw [m4]; decide), if_neg (by rw [n10]; decide), m6]
end Go.Sl
end
section
/- The walk of ClosingLosses. -/
namespace Go.Proofs.YtnfedcaehkcffaaGreat
open Go.RowKit Go.Sl
set_option maxHeartbeats 2000000
set_option maxRecDepth 100000
set_option linter.unusedSimpArgs false
theorem closingLosses_calls (z0 z1 z2 : Int) (w : World) :
    Calls Tryz.prog 4 #[.int .i64 z0, .int .i64 z1, .int .i64 z2] w fun e w' => e = .returned (.bool true) ∧ Below w.heap.size w w' := by
  have WC0 := fun W => within_calls z0 100000 W (by omega) (by omega)
  have WC1 := fun W => within_calls z1 101 W (by omega) (by omega)
  have WC2 := fun W => within_calls z2 20 W (by omega) (by omega)
  have p1 := within_lo z0 (n := 100000) (by omega)
  have p2 := within_hi z0 (n := 100000) (by omega)
  have q1 := within_lo z1 (n := 101) (by omega)
  have q2 := within_hi z1 (n := 101) (by omega)
  have k1 := within_lo z2 (n := 20) (by omega)
  have k2 := within_hi z2 (n := 20) (by omega)
  generalize within z0 100000 = p at *
  generalize within z1 101 = j at *
  generalize within z2 20 = k at *
  obtain ⟨n, hn⟩ : ∃ n, Hid (n = 1 + p) := ⟨_, rfl⟩
  obtain ⟨P, hP⟩ : ∃ P, 1 + k = P := ⟨_, rfl⟩
  have hn1 : 1 ≤ n ∧ n ≤ 100000 := by rw [hn.out]; omega
  have hP1 : 1 ≤ P ∧ P ≤ 20 := by omega
  have F1 := lo1 (n := n) (j := j) hn1 (by omega)
  have F2 := lo2 (P := P) (n := n) (j := j) hP1 hn1 (by omega)
  unfold loA at F1
  unfold loB at F2
  obtain ⟨L, hL⟩ : ∃ B, 500 * n = B := ⟨_, rfl⟩
  obtain ⟨A, hA⟩ : ∃ B, 100 * n = B := ⟨_, rfl⟩
  obtain ⟨J, hJ⟩ : ∃ B, 10000 * j = B := ⟨_, rfl⟩
  obtain ⟨O, hO⟩ : ∃ B, n * j = B := ⟨_, rfl⟩
  have bO : 0 ≤ O ∧ O ≤ A := by
    rw [← hO, ← hA]
    exact ⟨Int.mul_nonneg (by omega) q1, by rw [Int.mul_comm 100 n]; exact Int.mul_le_mul_of_nonneg_left (by omega) (by omega)⟩
  rw [hL, hA, hJ, hO] at F1 F2
  have e1 : 500 * (1 + p) = L := by rw [← hL, hn.out]
  have bL : 500 ≤ L ∧ L ≤ 50000000 := by omega
  have bA : 100 ≤ A ∧ A ≤ 10000000 := by omega
  have bJ : 0 ≤ J ∧ J ≤ 1000000 := by omega
  have v1 : L.tdiv 5 = A := by rw [← hL, ← hA, show 500 * n = 100 * n * 5 by omega, Int.mul_tdiv_cancel _ (by decide)]
  have v2 : A.tdiv 100 = n := by rw [← hA, Int.mul_comm, Int.mul_tdiv_cancel _ (by decide)]
  have v3 : J.tdiv 10000 = j := by rw [← hJ, Int.mul_comm, Int.mul_tdiv_cancel _ (by decide)]
  have y1 : wrap64 A = A := wrap64_small (by omega)
  have y2 : wrap64 n = n := wrap64_small (by omega)
  have y3 : wrap64 j = j := wrap64_small (by omega)
  have y4 : wrap64 O = O := wrap64_small (by omega)
  obtain ⟨g1, m1, t1, s1, a1, f1, lm1, am1, c1, l1⟩ := F1
  obtain ⟨g2, m2, t2, us2, go2, s2, a2, f2, o2, l2⟩ := F2
  obtain ⟨u, hu⟩ : ∃ u, Hid ((⟨oneT 200000, ⟨ukS, 0, -L, 0, J, 1000000, 2, 0⟩, balNone, [], []⟩ : SArg).out = u) := ⟨_, rfl⟩
  have ho : u.clo 0 [] = ⟨0, [], [], 200000, L, 0, A, -O⟩ := (clo_out hu.out).symm.trans c1
  rw [← ho] at g2 m2 t2 us2 go2 s2 a2 f2 o2 l2
  obtain ⟨u2, hu2⟩ : ∃ u2, Hid ((⟨oneT 200000, ⟨ukS, P, L, 0, J, 1000000, 2, 0⟩, u.clo 0 [], [⟨0, 2, L⟩], []⟩ : SArg).out = u2) := ⟨_, rfl⟩
  have r1 : u.tax = 0 := by rw [← hu.out]; exact t1
  have r2 : u.ls = A := by rw [← hu.out]; exact s1
  have r3 : u.al = -O := by rw [← hu.out]; exact a1
  have r4 : u.df = O - A := by rw [← hu.out]; exact f1
  have r5 : u.lm = -A := by rw [← hu.out]; exact lm1
  have r6 : u.am = O := by rw [← hu.out]; exact am1
  have y5 : Hid (u.left = [⟨0, 2, L⟩]) := by unfold Hid; rw [← hu.out]; exact l1
  have y7 : Hid (u2.left = []) := by unfold Hid; rw [← hu2.out]; exact l2
  have x1 : (u.tax != 0) = false := by simp [r1]
  have x2 : (u.ls != A) = false := by simp [r2]
  have x3 : (u.al != -O) = false := by simp [r3]
  have x4 : (u.df != O - A) = false := by simp [r4]
  have x5 : (u.lm != -A) = false := by simp [r5]
  have x6 : (u.am != O) = false := by simp [r6]
  have z1' : u2.tax = (if 12 ≤ P then A else 0) := by rw [← hu2.out]; exact t2
  have z2' : u2.usd = (if 12 ≤ P then 0 else L) := by rw [← hu2.out]; exact us2
  have z3' : u2.gon = (if 12 ≤ P then L else 0) := by rw [← hu2.out]; exact go2
  have z4' : u2.ls = 0 := by rw [← hu2.out]; exact s2
  have z5' : u2.al = 0 := by rw [← hu2.out]; exact a2
  have z6' : u2.df = A - O := by rw [← hu2.out]; exact f2
  have z7' : u2.tot = (if 12 ≤ P then A else 0) + A - O := by rw [← hu2.out]; exact o2
  have x7 : (u2.ls == 0) = true := by simp [z4']
  have x8 : (u2.al == 0) = true := by simp [z5']
  have x9 : (u2.df == A - O) = true := by simp [z6']
  have M1 := Lib.hid m1
  have M2 := Lib.hid m2
  have E0 := Env.start w
  replace z1' := Lib.hid z1'
  replace z2' := Lib.hid z2'
  replace z3' := Lib.hid z3'
  replace z7' := Lib.hid z7'
  replace ho := Lib.hid ho
  clear r1 r2 r3 r4 r5 r6 m1 t1 s1 a1 f1 lm1 am1 c1 l1 m2 t2 us2 go2 s2 a2 f2 o2 l2 z4' z5' z6' hL hA
  go_enter Tryz.func4, Tryz.ntmps4
  go_wp2_with fail
  refine (fresh19_calls 200000 (by decide) _).mono ?_
  rintro e w1 ⟨ht, bt, hr, br, hv, bv, rfl, ST, SR, SV, E1⟩
  replace E1 := Env.join E0 E1
  simp at E1
  go_wp2_with fail
  refine (WC0 _).mono ?_
  rintro e w' ⟨rfl, rfl⟩
  go_wp2_with fail
  refine (WC1 _).mono ?_
  rintro e w' ⟨rfl, rfl⟩
  go_wp2_with fail
  refine (closingNone_calls _).mono ?_
  rintro e w3 ⟨rfl, B3⟩
  replace E1 := E1.below B3
  go_wp2_with fail
  refine (Mk.ok (x := ⟨ukS, 0, -L, 0, J, 1000000, 2, 0⟩) (o := balNone) (A := none) (B := none) (ca := 0) (cb := 0) (hx := Hp.none) (hs := Hp.none) E1 g1 M1 hu (E1.sub 0 rfl) (Hp.none_sub _) (Hp.none_sub _) (E1.sub 2 rfl) (E1.sub 1 rfl) ST.pt (Sl.none _ _) (Sl.none _ _) SV SR).mono ?_
  rintro e w4 ⟨h4, hl, bl, D, cd, G, cg, Rr, cr, Q, cq, V, cv, C, cw, N, cn, rfl, _, _, sR, sQ, _, _, _, SL, E4⟩
  simp at E4
  go_upto_region 6 with (refine wpList_store_env rfl (E4.box0 [.string ⟨#[]⟩, .int .i64 0, .int .i64 0, .int .i64 0, .int .i64 0, .int .i64 0, .int .i64 0, .int .i64 0, .int .i64 0, .int .i64 0, .slice none 0 0, .slice none 0 0, .int .i64 0, .int .i64 0, .int .i64 0, .int .i64 0, .int .i64 0, .int .i64 0, .slice none 0 0, .slice none 0 0, .int .i64 0, .int .i64 0, .int .i64 0, .int .i64 0, .int .i64 0, .int .i64 0, .int .i64 0, .int .i64 0, .int .i64 0, .int .i64 0, .int .i64 0, .slice none 0 0, .slice none 0 0, .slice none 0 0, .int .i64 0, .int .i64 0, .int .i64 0, .int .i64 0, .int .i64 0, .int .i64 0, .int .i64 0] 44) 0 rfl 44 _ _ rfl 0 _ rfl rfl (by simp) (by kernel_rfl) (by simp [Value.oneCell']) ?_; intro W5 E5)
  simp at E5
  have c1 := E5.cell 0 rfl 30 rfl
  have c2 := E5.cell 0 rfl 23 rfl
  have c3 := E5.cell 0 rfl 24 rfl
  have c4 := E5.cell 0 rfl 39 rfl
  have c5 := E5.cell 0 rfl 36 rfl
  have c6 := E5.cell 0 rfl 38 rfl
  go_wp2_with fail
  refine (WC2 _).mono ?_
  rintro e w' ⟨rfl, rfl⟩
  rw [y5.out] at SL
  have SL' := SL
  go_wp2_with (refine wpList_load_mid rfl 37 _ rfl w4.heap.size 17 rfl _ _ (E5.rangeMid 0 rfl 17 [.int .i64 0, .slice Rr 0 cr, .slice Q u.rats.length cq, .int .i64 u.nx, .int .i64 u.lf, .int .i64 u.tm, .int .i64 u.ls, .int .i64 u.al] rfl) Tryz.underlying37 rfl (by kernel_rfl) ?_)
  refine (Mk.ok (x := ⟨ukS, P, L, 0, J, 1000000, 2, 0⟩) (o := u.clo 0 []) E5 g2 M2 hu2 (E5.sub 1 rfl) (E5.sub 4 rfl) (E5.sub 4 rfl) (E5.sub 5 rfl) (E5.sub 2 rfl) ST.pt sR sQ SL SR).mono ?_
  rintro e w7 ⟨h7, hl7, bl7, D7, cd7, G7, cg7, R7, cr7, Q7, cq7, V7, cv7, C7, cw7, N7, cn7, rfl, _, _, _, _, _, _, _, SL7, E7⟩
  simp at E7
  go_upto_region 12 with (refine wpList_store_env rfl (E7.box0 [.string ⟨#[]⟩, .int .i64 0, .int .i64 0, .int .i64 0, .int .i64 0, .int .i64 0, .int .i64 0, .int .i64 0, .int .i64 0, .int .i64 0, .slice none 0 0, .slice none 0 0, .int .i64 0, .int .i64 0, .int .i64 0, .int .i64 0, .int .i64 0, .int .i64 0, .slice none 0 0, .slice none 0 0, .int .i64 0, .int .i64 0, .int .i64 0, .int .i64 0, .int .i64 0, .int .i64 0, .int .i64 0, .int .i64 0, .int .i64 0, .int .i64 0, .int .i64 0, .slice none 0 0, .slice none 0 0, .slice none 0 0, .int .i64 0, .int .i64 0, .int .i64 0, .int .i64 0, .int .i64 0, .int .i64 0, .int .i64 0] 44) 0 rfl 44 _ _ rfl 0 _ rfl rfl (by simp) (by kernel_rfl) (by simp [Value.oneCell']) ?_; intro W8 E8)
  simp at E8
  have d1 := E8.cell 0 rfl 30 rfl
  have d2 := E8.cell 0 rfl 27 rfl
  have d3 := E8.cell 0 rfl 26 rfl
  have d4 := E8.cell 0 rfl 23 rfl
  have d5 := E8.cell 0 rfl 24 rfl
  have d6 := E8.cell 0 rfl 39 rfl
  have d7 := E8.cell 0 rfl 40 rfl
  by_cases h12 : 12 ≤ P
  · have x10 : (u2.tax == A) = true := by rw [z1'.out, if_pos h12]; simp
    have x11 : (u2.usd == 0) = true := by rw [z2'.out, if_pos h12]; simp
    have x12 : (u2.gon == L) = true := by rw [z3'.out, if_pos h12]; simp
    have x13 : (u2.tot == A + A - O) = true := by rw [z7'.out, if_pos h12]; simp
    go_wp2_with fail
    refine (Vnt.left SL7 E8 8 rfl (v := 0) (by rw [y7.out]; rfl)).mono ?_
    rintro e w9 ⟨rfl, E9⟩
    go_wp2_with fail
    refine (Vnt.left SL E9 6 rfl (v := L) (by simp [sumC])).mono ?_
    rintro e w10 ⟨rfl, E10⟩
    go_wp2_with fail
    refine (wakes19 _).mono ?_
    rintro e w11 ⟨rfl, B11⟩
    go_wp2
    go_ret
    exact ⟨rfl, (E10.below B11).low⟩
  · have x10 : (u2.tax == 0) = true := by rw [z1'.out, if_neg h12]; simp
    have x11 : (u2.usd == L) = true := by rw [z2'.out, if_neg h12]; simp
    have x12 : (u2.gon == 0) = true := by rw [z3'.out, if_neg h12]; simp
    have x13 : (u2.tot == A - O) = true := by rw [z7'.out, if_neg h12]; simp
    go_wp2_with fail
    refine (Vnt.left SL7 E8 8 rfl (v := 0) (by rw [y7.out]; rfl)).mono ?_
    rintro e w9 ⟨rfl, E9⟩
    go_wp2_with fail
    refine (Vnt.left SL E9 6 rfl (v := L) (by simp [sumC])).mono ?_
    rintro e w10 ⟨rfl, E10⟩
    go_wp2_with fail
    refine (wakes19 _).mono ?_
    rintro e w11 ⟨rfl, B11⟩
    go_wp2
    go_ret
    exact ⟨rfl, (E10.below B11).low⟩
end Go.Proofs.YtnfedcaehkcffaaGreat
end
section
/- What the type table says of api.Item. -/
namespace Go.Proofs.YtnfedcaehkcffaaGreat
open Go.RowKit Go.Sl
set_option maxHeartbeats 1000000
set_option maxRecDepth 100000
theorem info_item : Info Tryz.prog 61 (.agg #[.int .i64 0, .int .i64 0]) 2 16 := by unfold Info; kernel_rfl
end Go.Proofs.YtnfedcaehkcffaaGreat
end
