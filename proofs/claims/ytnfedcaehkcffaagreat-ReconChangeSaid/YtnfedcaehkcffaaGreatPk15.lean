/- Walks and plain facts that the laws of this seat share, part 15: contracts of functions, each said at its theorem. -/
import Derived.Test.YtnfedcaehkcffaaGreatPk14
set_option linter.all false
section
/- The walk of Provision.costs. -/
namespace Go.Sl
open Go Go.RowKit
def coLr (onx olf nx : Int) : Int := ofVal olf onx - ofVal olf nx
def coLm (onx olf ols nx ls : Int) : Int := ols - ls - coLr onx olf nx
def coDf (onx olf ols oal nx ls al mo ra : Int) : Int := mo + ra + coLm onx olf ols nx ls + coLr onx olf nx + (oal - al)
def coTot (up onx olf ols oal nx ls al tax mo ra : Int) : Int := tax + coDf onx olf ols oal nx ls al mo ra + up
def coL (up onx olf otm ols oal nx tm ls al tax mo ra : Int) : List Int := [coLm onx olf ols nx ls, coLr onx olf nx, oal - al, tax + up, tm - otm, ls - ols, al - oal, coDf onx olf ols oal nx ls al mo ra, coTot up onx olf ols oal nx ls al tax mo ra]
theorem Env.rest2 {w0 w : World} {a b c : Hp} {l : List Hp} (E : Env w0 w (a :: b :: c :: l)) : Env w0 w (a :: l) := by
  have h := (E.drop 1).drop 1
  simpa using h
theorem Env.rest1 {w0 w : World} {a b : Hp} {l : List Hp} (E : Env w0 w (a :: b :: l)) : Env w0 w (a :: l) := by
  have h := E.drop 1
  simpa using h
end Go.Sl
namespace Go.Proofs.YtnfedcaehkcffaaGreat
open Go.RowKit Go.Sl
set_option maxHeartbeats 2000000
set_option maxRecDepth 100000
set_option linter.unusedSimpArgs false
def CoAns (up onx olf otm ols oal nx tm ls al tax mo ra : Int) (bp : Nat) (v0 v1 v2 v3 v4 v5 v6 v8 v25 v26 v27 v28 v29 v31 v32 v33 : Value) (opr cpr lf : Int) (A B R Q : Option Addr) (nA ca nB cb nR cr nQ cq : Nat) (w0 : World) (L : List Hp) (e : Ending) (w' : World) : Prop :=
  ((coL up onx olf otm ols oal nx tm ls al tax mo ra).all money = false ∧ e = .returned (.int .i64 6) ∧ Env w0 w' L) ∨
  ((coL up onx olf otm ols oal nx tm ls al tax mo ra).all money = true ∧ e = .returned (.int .i64 0) ∧ Env w0 w' (Hp.box bp [v0, v1, v2, v3, v4, v5, v6, .int .i64 up, v8, .int .i64 opr, .slice A nA ca, .slice B nB cb, .int .i64 onx, .int .i64 olf, .int .i64 otm, .int .i64 ols, .int .i64 oal, .int .i64 cpr, .slice R nR cr, .slice Q nQ cq, .int .i64 nx, .int .i64 lf, .int .i64 tm, .int .i64 ls, .int .i64 al, v25, v26, v27, v28, v29, .int .i64 tax, v31, v32, v33, .int .i64 mo, .int .i64 ra, .int .i64 (coLm onx olf ols nx ls), .int .i64 (coLr onx olf nx), .int .i64 (oal - al), .int .i64 (coDf onx olf ols oal nx ls al mo ra), .int .i64 (coTot up onx olf ols oal nx ls al tax mo ra)] 44 :: L))
theorem costs_calls (up onx olf otm ols oal nx tm ls al tax mo ra : Int) (bp : Nat) (v0 v1 v2 v3 v4 v5 v6 v8 v25 v26 v27 v28 v29 v31 v32 v33 v36 v37 v38 v39 v40 : Value) (opr cpr lf : Int) (A B R Q : Option Addr) (nA ca nB cb nR cr nQ cq : Nat) (w0 w : World) (L : List Hp) (E : Env w0 w (Hp.box bp [v0, v1, v2, v3, v4, v5, v6, .int .i64 up, v8, .int .i64 opr, .slice A nA ca, .slice B nB cb, .int .i64 onx, .int .i64 olf, .int .i64 otm, .int .i64 ols, .int .i64 oal, .int .i64 cpr, .slice R nR cr, .slice Q nQ cq, .int .i64 nx, .int .i64 lf, .int .i64 tm, .int .i64 ls, .int .i64 al, v25, v26, v27, v28, v29, .int .i64 tax, v31, v32, v33, .int .i64 mo, .int .i64 ra, v36, v37, v38, v39, v40] 44 :: L))
    (g1 : 0 ≤ ols ∧ ols ≤ 100000000000) (g2 : 0 ≤ ls ∧ ls ≤ 100000000000) (g3 : -100000000000 ≤ oal ∧ oal ≤ 0) (g4 : -100000000000 ≤ al ∧ al ≤ 0) (g5 : -100000000000 ≤ otm ∧ otm ≤ 100000000000) (g6 : -100000000000 ≤ tm ∧ tm ≤ 100000000000)
    (g7 : -100000000000 ≤ mo ∧ mo ≤ 100000000000) (g8 : -100000000000 ≤ ra ∧ ra ≤ 100000000000) (g9 : -100000000000 ≤ up ∧ up ≤ 100000000000) (g10 : -4000000000001 ≤ tax ∧ tax ≤ 4000000000001) :
    Calls Tryz.prog 60 #[.pointer (some ⟨bp, 0, none⟩)] w (CoAns up onx olf otm ols oal nx tm ls al tax mo ra bp v0 v1 v2 v3 v4 v5 v6 v8 v25 v26 v27 v28 v29 v31 v32 v33 opr cpr lf A B R Q nA ca nB cb nR cr nQ cq w0 L) := by
  have HL : Hid (coL up onx olf otm ols oal nx tm ls al tax mo ra = [coLm onx olf ols nx ls, coLr onx olf nx, oal - al, tax + up, tm - otm, ls - ols, al - oal, coDf onx olf ols oal nx ls al mo ra, coTot up onx olf ols oal nx ls al tax mo ra]) := rfl
  have HLR : Hid (coLr onx olf nx = ofVal olf onx - ofVal olf nx) := rfl
  have HLM : Hid (coLm onx olf ols nx ls = ols - ls - coLr onx olf nx) := rfl
  have HDF : Hid (coDf onx olf ols oal nx ls al mo ra = mo + ra + coLm onx olf ols nx ls + coLr onx olf nx + (oal - al)) := rfl
  have HTO : Hid (coTot up onx olf ols oal nx ls al tax mo ra = tax + coDf onx olf ols oal nx ls al mo ra + up) := rfl
  have O1 := fun W : World => of_calls olf nx W
  have O2 := fun W : World => of_calls olf onx W
  have b1 := ofVal_bd olf nx
  have b2 := ofVal_bd olf onx
  have AC := fun W : World => allowChange_calls oal al W (by omega) (by omega)
  have TC := fun W : World => remTotal_calls mo ra W
  rw [wrap64_small (by omega)] at TC
  generalize hLR : coLr onx olf nx = lr at *
  generalize hLM : coLm onx olf ols nx ls = lm at *
  generalize hDF : coDf onx olf ols oal nx ls al mo ra = df at *
  generalize hTO : coTot up onx olf ols oal nx ls al tax mo ra = tot at *
  generalize ofVal olf nx = q1 at *
  generalize ofVal olf onx = q2 at *
  generalize ofOk olf nx = f1 at *
  generalize ofOk olf onx = f2 at *
  have b3 : -8000000000002 ≤ lr ∧ lr ≤ 8000000000002 := by rw [HLR.out]; omega
  have b4 : -8200000000002 ≤ lm ∧ lm ≤ 8200000000002 := by rw [HLM.out]; omega
  have b5 : -20000000000000 ≤ df ∧ df ≤ 20000000000000 := by rw [HDF.out]; omega
  have b6 : -30000000000000 ≤ tot ∧ tot ≤ 30000000000000 := by rw [HTO.out]; omega
  go_enter Tryz.func60, Tryz.ntmps60
  go_upto_region 1 with fail
  go_cut [3, 4] (fun p q V => ∃ ba bb : Nat, p = .pointer (some ⟨ba, 0, none⟩) ∧ q = .pointer (some ⟨bb, 0, none⟩) ∧ Env w0 V (Hp.box bp [v0, v1, v2, v3, v4, v5, v6, .int .i64 up, v8, .int .i64 opr, .slice A nA ca, .slice B nB cb, .int .i64 onx, .int .i64 olf, .int .i64 otm, .int .i64 ols, .int .i64 oal, .int .i64 cpr, .slice R nR cr, .slice Q nQ cq, .int .i64 nx, .int .i64 lf, .int .i64 tm, .int .i64 ls, .int .i64 al, v25, v26, v27, v28, v29, .int .i64 tax, v31, v32, v33, .int .i64 mo, .int .i64 ra, v36, v37, v38, v39, v40] 44 :: Hp.box ba [.int .i64 opr, .slice A nA ca, .slice B nB cb, .int .i64 onx, .int .i64 olf, .int .i64 otm, .int .i64 ols, .int .i64 oal] 37 :: Hp.box bb [.int .i64 cpr, .slice R nR cr, .slice Q nQ cq, .int .i64 nx, .int .i64 lf, .int .i64 tm, .int .i64 ls, .int .i64 al] 37 :: L))
  case first =>
    refine wp_region_held_drew (S := (fun V => Env w0 V (Hp.box bp [v0, v1, v2, v3, v4, v5, v6, .int .i64 up, v8, .int .i64 opr, .slice A nA ca, .slice B nB cb, .int .i64 onx, .int .i64 olf, .int .i64 otm, .int .i64 ols, .int .i64 oal, .int .i64 cpr, .slice R nR cr, .slice Q nQ cq, .int .i64 nx, .int .i64 lf, .int .i64 tm, .int .i64 ls, .int .i64 al, v25, v26, v27, v28, v29, .int .i64 tax, v31, v32, v33, .int .i64 mo, .int .i64 ra, v36, v37, v38, v39, v40] 44 :: L))) (by kernel_rfl) ?_ (fun hHeld => ?_)
    · (try dsimp only)
      first | (exact E.drew)
    refine take_on (i := 0) (by (simp only [List.getElem?_toArray, List.getElem?_cons_succ, List.getElem?_cons_zero]) <;> rfl) (by kernel_rfl) (by kernel_rfl) (by kernel_rfl) (by intro _ _ _ _ h; exact h) (by rfl) (by assumption) ?_
    apply Exists.intro
    refine ⟨?_, ?_⟩
    · intro W0 hSw
      try dsimp only at hSw
      go_simp
      try (with_reducible rfl)
    try simp only [Act.put, List.setIfInBounds_toArray, List.set_cons_zero, List.set_cons_succ]
    refine take_on (i := 1) (by (simp only [List.getElem?_toArray, List.getElem?_cons_succ, List.getElem?_cons_zero]) <;> rfl) (by kernel_rfl) (by kernel_rfl) (by kernel_rfl) (by intro _ _ _ _ h; exact h) (by rfl) (by assumption) ?_
    apply Exists.intro
    refine ⟨?_, ?_⟩
    · intro W0 hSw
      try dsimp only at hSw
      go_simp
      try (with_reducible rfl)
    try simp only [Act.put, List.setIfInBounds_toArray, List.set_cons_zero, List.set_cons_succ]
    refine take_on (i := 2) (by (simp only [List.getElem?_toArray, List.getElem?_cons_succ, List.getElem?_cons_zero]) <;> rfl) (by kernel_rfl) (by kernel_rfl) (by kernel_rfl) (by intro _ _ _ _ h; exact h) (by rfl) (by assumption) ?_
    apply Exists.intro
    refine ⟨?_, ?_⟩
    · intro W0 hSw
      try dsimp only at hSw
      go_simp
      try (with_reducible rfl)
    try simp only [Act.put, List.setIfInBounds_toArray, List.set_cons_zero, List.set_cons_succ]
    refine take_on (i := 3) (by (simp only [List.getElem?_toArray, List.getElem?_cons_succ, List.getElem?_cons_zero]) <;> rfl) (by kernel_rfl) (by kernel_rfl) (by kernel_rfl) (by intro _ _ _ _ h; exact h) (by rfl) (by assumption) ⟨_, fun W0 hSw => exec_load_mid 37 _ rfl bp 9 rfl [.int .i64 opr, .slice A nA ca, .slice B nB cb, .int .i64 onx, .int .i64 olf, .int .i64 otm, .int .i64 ols, .int .i64 oal] _ W0 (Env.rangeMid hSw 0 rfl 9 [.int .i64 opr, .slice A nA ca, .slice B nB cb, .int .i64 onx, .int .i64 olf, .int .i64 otm, .int .i64 ols, .int .i64 oal] rfl) Tryz.underlying37 rfl (by kernel_rfl), ?_⟩
    try simp only [Act.put, List.setIfInBounds_toArray, List.set_cons_zero, List.set_cons_succ]
    refine take_on (i := 4) (by (simp only [List.getElem?_toArray, List.getElem?_cons_succ, List.getElem?_cons_zero]) <;> rfl) (by kernel_rfl) (by kernel_rfl) (by kernel_rfl) (by intro _ _ _ _ h; exact h) (by rfl) (by assumption) ?_
    apply Exists.intro
    refine ⟨?_, ?_⟩
    · intro W0 hSw
      try dsimp only at hSw
      go_simp
      try (with_reducible rfl)
    try simp only [Act.put, List.setIfInBounds_toArray, List.set_cons_zero, List.set_cons_succ]
    refine take_on (i := 5) (by (simp only [List.getElem?_toArray, List.getElem?_cons_succ, List.getElem?_cons_zero]) <;> rfl) (by kernel_rfl) (by kernel_rfl) (by kernel_rfl) (by intro _ _ _ _ h; exact h) (by rfl) (by assumption) ?_
    apply Exists.intro
    refine ⟨?_, ?_⟩
    · intro W0 hSw
      try dsimp only at hSw
      go_simp
      try (with_reducible rfl)
    try simp only [Act.put, List.setIfInBounds_toArray, List.set_cons_zero, List.set_cons_succ]
    refine take_on (i := 6) (by (simp only [List.getElem?_toArray, List.getElem?_cons_succ, List.getElem?_cons_zero]) <;> rfl) (by kernel_rfl) (by kernel_rfl) (by kernel_rfl) (by intro _ _ _ _ h; exact h) (by rfl) (by assumption) ?_
    apply Exists.intro
    refine ⟨?_, ?_⟩
    · intro W0 hSw
      try dsimp only at hSw
      go_simp
      try (with_reducible rfl)
    try simp only [Act.put, List.setIfInBounds_toArray, List.set_cons_zero, List.set_cons_succ]
    refine take_on (i := 7) (by (simp only [List.getElem?_toArray, List.getElem?_cons_succ, List.getElem?_cons_zero]) <;> rfl) (by kernel_rfl) (by kernel_rfl) (by kernel_rfl) (by intro _ _ _ _ h; exact h) (by rfl) (by assumption) ⟨_, fun W0 hSw => exec_load_mid 37 _ rfl bp 17 rfl [.int .i64 cpr, .slice R nR cr, .slice Q nQ cq, .int .i64 nx, .int .i64 lf, .int .i64 tm, .int .i64 ls, .int .i64 al] _ W0 (Env.rangeMid hSw 0 rfl 17 [.int .i64 cpr, .slice R nR cr, .slice Q nQ cq, .int .i64 nx, .int .i64 lf, .int .i64 tm, .int .i64 ls, .int .i64 al] rfl) Tryz.underlying37 rfl (by kernel_rfl), ?_⟩
    try simp only [Act.put, List.setIfInBounds_toArray, List.set_cons_zero, List.set_cons_succ]
    refine wpAnyH_ready (rs := [8, 9]) (by kernel_rfl) (by simp) ?_
    refine (AllReadyH.cons (by (simp only [List.getElem?_toArray, List.getElem?_cons_succ, List.getElem?_cons_zero]) <;> rfl) (fun K hK => ?_) (AllReadyH.cons (by (simp only [List.getElem?_toArray, List.getElem?_cons_succ, List.getElem?_cons_zero]) <;> rfl) (fun K hK => ?_) AllReadyH.nil))
    · go_simp
      have E1 := E.drew.alloc1 (.cells #[.int .i64 0, .slice none 0 0, .slice none 0 0, .int .i64 0, .int .i64 0, .int .i64 0, .int .i64 0, .int .i64 0] 37)
      have hkeep := E1.rest1
      refine hK.out _ _ ?_ (fun hHeld => ?_)
      · (try dsimp only)
        first | (exact hkeep) | (exact E.drew)
      clear hK K
      try simp only [Act.put, List.setIfInBounds_toArray, List.set_cons_zero, List.set_cons_succ]
      refine wpAnyH_ready (rs := [9]) (by kernel_rfl) (by simp) ?_
      refine (AllReadyH.cons (by (simp only [List.getElem?_toArray, List.getElem?_cons_succ, List.getElem?_cons_zero]) <;> rfl) (fun K hK => ?_) AllReadyH.nil)
      go_simp
      have E2 := E1.alloc1 (.cells #[.int .i64 0, .slice none 0 0, .slice none 0 0, .int .i64 0, .int .i64 0, .int .i64 0, .int .i64 0, .int .i64 0] 37)
      simp at E2
      have hkeep := E2.rest2
      refine hK.out _ _ ?_ (fun hHeld => ?_)
      · (try dsimp only)
        first | (exact hkeep) | (exact E.drew)
      clear hK K
      try simp only [Act.put, List.setIfInBounds_toArray, List.set_cons_zero, List.set_cons_succ]
      refine wpAnyH_ready (rs := [10]) (by kernel_rfl) (by simp) ?_
      refine (AllReadyH.cons (by (simp only [List.getElem?_toArray, List.getElem?_cons_succ, List.getElem?_cons_zero]) <;> rfl) (fun K hK => ?_) AllReadyH.nil)
      refine wp_store_env E2 2 rfl 37 _ _ rfl 0 [.int .i64 opr, .slice A nA ca, .slice B nB cb, .int .i64 onx, .int .i64 olf, .int .i64 otm, .int .i64 ols, .int .i64 oal] rfl rfl (by simp) (by kernel_rfl) (by simp [Value.oneCell']) (fun WE3 E3 => ?_)
      simp at E3
      have hkeep := E3.rest2
      refine hK.out _ _ ?_ (fun hHeld => ?_)
      · (try dsimp only)
        first | (exact hkeep) | (exact E.drew)
      clear hK K
      try simp only [Act.put, List.setIfInBounds_toArray, List.set_cons_zero, List.set_cons_succ]
      refine wpAnyH_ready (rs := [11]) (by kernel_rfl) (by simp) ?_
      refine (AllReadyH.cons (by (simp only [List.getElem?_toArray, List.getElem?_cons_succ, List.getElem?_cons_zero]) <;> rfl) (fun K hK => ?_) AllReadyH.nil)
      refine wp_store_env E3 1 rfl 37 _ _ rfl 0 [.int .i64 cpr, .slice R nR cr, .slice Q nQ cq, .int .i64 nx, .int .i64 lf, .int .i64 tm, .int .i64 ls, .int .i64 al] rfl rfl (by simp) (by kernel_rfl) (by simp [Value.oneCell']) (fun WE4 E4 => ?_)
      simp at E4
      have hkeep := E4.rest2
      refine hK.out _ _ ?_ (fun hHeld => ?_)
      · (try dsimp only)
        first | (exact hkeep) | (exact E.drew)
      clear hK K
      try simp only [Act.put, List.setIfInBounds_toArray, List.set_cons_zero, List.set_cons_succ]
      refine wpAnyH_done (by kernel_rfl) ?_ _
      go_wp2_with fail
      go_meet
      first
        | exact ⟨_, _, rfl, rfl, E4.perm ((List.Perm.swap _ _ _).cons _)⟩
        | exact ⟨_, _, rfl, rfl, E4⟩
    · go_simp
      have E1 := E.drew.alloc1 (.cells #[.int .i64 0, .slice none 0 0, .slice none 0 0, .int .i64 0, .int .i64 0, .int .i64 0, .int .i64 0, .int .i64 0] 37)
      have hkeep := E1.rest1
      refine hK.out _ _ ?_ (fun hHeld => ?_)
      · (try dsimp only)
        first | (exact hkeep) | (exact E.drew)
      clear hK K
      try simp only [Act.put, List.setIfInBounds_toArray, List.set_cons_zero, List.set_cons_succ]
      refine wpAnyH_ready (rs := [8]) (by kernel_rfl) (by simp) ?_
      refine (AllReadyH.cons (by (simp only [List.getElem?_toArray, List.getElem?_cons_succ, List.getElem?_cons_zero]) <;> rfl) (fun K hK => ?_) AllReadyH.nil)
      go_simp
      have E2 := E1.alloc1 (.cells #[.int .i64 0, .slice none 0 0, .slice none 0 0, .int .i64 0, .int .i64 0, .int .i64 0, .int .i64 0, .int .i64 0] 37)
      simp at E2
      have hkeep := E2.rest2
      refine hK.out _ _ ?_ (fun hHeld => ?_)
      · (try dsimp only)
        first | (exact hkeep) | (exact E.drew)
      clear hK K
      try simp only [Act.put, List.setIfInBounds_toArray, List.set_cons_zero, List.set_cons_succ]
      refine wpAnyH_ready (rs := [10]) (by kernel_rfl) (by simp) ?_
      refine (AllReadyH.cons (by (simp only [List.getElem?_toArray, List.getElem?_cons_succ, List.getElem?_cons_zero]) <;> rfl) (fun K hK => ?_) AllReadyH.nil)
      refine wp_store_env E2 1 rfl 37 _ _ rfl 0 [.int .i64 opr, .slice A nA ca, .slice B nB cb, .int .i64 onx, .int .i64 olf, .int .i64 otm, .int .i64 ols, .int .i64 oal] rfl rfl (by simp) (by kernel_rfl) (by simp [Value.oneCell']) (fun WE3 E3 => ?_)
      simp at E3
      have hkeep := E3.rest2
      refine hK.out _ _ ?_ (fun hHeld => ?_)
      · (try dsimp only)
        first | (exact hkeep) | (exact E.drew)
      clear hK K
      try simp only [Act.put, List.setIfInBounds_toArray, List.set_cons_zero, List.set_cons_succ]
      refine wpAnyH_ready (rs := [11]) (by kernel_rfl) (by simp) ?_
      refine (AllReadyH.cons (by (simp only [List.getElem?_toArray, List.getElem?_cons_succ, List.getElem?_cons_zero]) <;> rfl) (fun K hK => ?_) AllReadyH.nil)
      refine wp_store_env E3 2 rfl 37 _ _ rfl 0 [.int .i64 cpr, .slice R nR cr, .slice Q nQ cq, .int .i64 nx, .int .i64 lf, .int .i64 tm, .int .i64 ls, .int .i64 al] rfl rfl (by simp) (by kernel_rfl) (by simp [Value.oneCell']) (fun WE4 E4 => ?_)
      simp at E4
      have hkeep := E4.rest2
      refine hK.out _ _ ?_ (fun hHeld => ?_)
      · (try dsimp only)
        first | (exact hkeep) | (exact E.drew)
      clear hK K
      try simp only [Act.put, List.setIfInBounds_toArray, List.set_cons_zero, List.set_cons_succ]
      refine wpAnyH_done (by kernel_rfl) ?_ _
      go_wp2_with fail
      go_meet
      first
        | exact ⟨_, _, rfl, rfl, E4.perm ((List.Perm.swap _ _ _).cons _)⟩
        | exact ⟨_, _, rfl, rfl, E4⟩
  case rest =>
    clear E
    rename_i hcut
    obtain ⟨ba, bb, rfl, rfl, E⟩ := hcut
    refine ‹∀ (a : Act) (w : World), Code.wp _ _ _ a w → _› _ _ ?_
    have p3 := E.cell 1 rfl 3 rfl
    have p4 := E.cell 1 rfl 4 rfl
    have q3 := E.cell 2 rfl 3 rfl
    go_wp2_with fail
    refine (O1 _).mono ?_
    rintro e w5 ⟨rfl, rfl⟩
    go_wp2_with fail
    refine (O2 _).mono ?_
    rintro e w5 ⟨rfl, rfl⟩
    have c37 := E.cell 0 rfl 37 rfl
    have cf := fun n => E.free 0 rfl n
    go_upto_region 5 with fail
    have E1 := E.cellset 0 rfl 37 (.int .i64 (q2 - q1))
    simp only [List.set_cons_zero, List.set_cons_succ] at E1
    rw [← HLR.out] at E1
    rw [← HLR.out]
    clear p3 p4 q3 c37 cf E O1 O2
    generalize World.setCell _ _ _ = W5 at *
    have hw1 : IntKind.i64.wrap (ols - ls) = ols - ls := by rw [IntKind.wrap_i64]; omega
    have hw2 : IntKind.i64.wrap (ols - ls - lr) = ols - ls - lr := by rw [IntKind.wrap_i64]; omega
    have c36 := E1.cell 0 rfl 36 rfl
    have cf := fun n => E1.free 0 rfl n
    refine wp_region_held_drew (S := (fun V => V.cell? ⟨ba, 6, none⟩ = some (.int .i64 ols) ∧ V.cell? ⟨bb, 6, none⟩ = some (.int .i64 ls) ∧ V.cell? ⟨bp, 37, none⟩ = some (.int .i64 lr))) (by kernel_rfl) ?_ (fun hHeld => ?_)
    · (try dsimp only)
      first | (exact ⟨E1.drew.cell 1 rfl 6 rfl, E1.drew.cell 2 rfl 6 rfl, E1.drew.cell 0 rfl 37 rfl⟩)
    refine take_on (i := 0) (by (simp only [List.getElem?_toArray, List.getElem?_cons_succ, List.getElem?_cons_zero]) <;> rfl) (by kernel_rfl) (by kernel_rfl) (by kernel_rfl) (by intro _ _ _ _ h; exact h) (by rfl) (by assumption) ?_
    apply Exists.intro
    refine ⟨?_, ?_⟩
    · intro W0 hSw
      try dsimp only at hSw
      go_simp
      try (with_reducible rfl)
    try simp only [Act.put, List.setIfInBounds_toArray, List.set_cons_zero, List.set_cons_succ]
    refine take_on (i := 1) (by (simp only [List.getElem?_toArray, List.getElem?_cons_succ, List.getElem?_cons_zero]) <;> rfl) (by kernel_rfl) (by kernel_rfl) (by kernel_rfl) (by intro _ _ _ _ h; exact h) (by rfl) (by assumption) ?_
    apply Exists.intro
    refine ⟨?_, ?_⟩
    · intro W0 hSw
      try dsimp only at hSw
      go_simp
      try (with_reducible rfl)
    try simp only [Act.put, List.setIfInBounds_toArray, List.set_cons_zero, List.set_cons_succ]
    refine take_on (i := 2) (by (simp only [List.getElem?_toArray, List.getElem?_cons_succ, List.getElem?_cons_zero]) <;> rfl) (by kernel_rfl) (by kernel_rfl) (by kernel_rfl) (by intro _ _ _ _ h; exact h) (by rfl) (by assumption) ?_
    apply Exists.intro
    refine ⟨?_, ?_⟩
    · intro W0 hSw
      try dsimp only at hSw
      go_simp
      try (with_reducible rfl)
    try simp only [Act.put, List.setIfInBounds_toArray, List.set_cons_zero, List.set_cons_succ]
    refine take_on (i := 3) (by (simp only [List.getElem?_toArray, List.getElem?_cons_succ, List.getElem?_cons_zero]) <;> rfl) (by kernel_rfl) (by kernel_rfl) (by kernel_rfl) (by intro _ _ _ _ h; exact h) (by rfl) (by assumption) ?_
    apply Exists.intro
    refine ⟨?_, ?_⟩
    · intro W0 hSw
      try dsimp only at hSw
      go_simp
      try (with_reducible rfl)
    try simp only [Act.put, List.setIfInBounds_toArray, List.set_cons_zero, List.set_cons_succ]
    refine take_on (i := 4) (by (simp only [List.getElem?_toArray, List.getElem?_cons_succ, List.getElem?_cons_zero]) <;> rfl) (by kernel_rfl) (by kernel_rfl) (by kernel_rfl) (by intro _ _ _ _ h; exact h) (by rfl) (by assumption) ?_
    apply Exists.intro
    refine ⟨?_, ?_⟩
    · intro W0 hSw
      try dsimp only at hSw
      go_simp
      try (with_reducible rfl)
    try simp only [Act.put, List.setIfInBounds_toArray, List.set_cons_zero, List.set_cons_succ]
    refine take_on (i := 5) (by (simp only [List.getElem?_toArray, List.getElem?_cons_succ, List.getElem?_cons_zero]) <;> rfl) (by kernel_rfl) (by kernel_rfl) (by kernel_rfl) (by intro _ _ _ _ h; exact h) (by rfl) (by assumption) ?_
    apply Exists.intro
    refine ⟨?_, ?_⟩
    · intro W0 hSw
      try dsimp only at hSw
      go_simp
      try (with_reducible rfl)
    try simp only [Act.put, List.setIfInBounds_toArray, List.set_cons_zero, List.set_cons_succ]
    refine take_on (i := 6) (by (simp only [List.getElem?_toArray, List.getElem?_cons_succ, List.getElem?_cons_zero]) <;> rfl) (by kernel_rfl) (by kernel_rfl) (by kernel_rfl) (by intro _ _ _ _ h; exact h) (by rfl) (by assumption) ?_
    apply Exists.intro
    refine ⟨?_, ?_⟩
    · intro W0 hSw
      try dsimp only at hSw
      go_simp
      try (with_reducible rfl)
    try simp only [Act.put, List.setIfInBounds_toArray, List.set_cons_zero, List.set_cons_succ]
    refine take_on (i := 7) (by (simp only [List.getElem?_toArray, List.getElem?_cons_succ, List.getElem?_cons_zero]) <;> rfl) (by kernel_rfl) (by kernel_rfl) (by kernel_rfl) (by intro _ _ _ _ h; exact h) (by rfl) (by assumption) ?_
    apply Exists.intro
    refine ⟨?_, ?_⟩
    · intro W0 hSw
      try dsimp only at hSw
      go_simp
      try (with_reducible rfl)
    try simp only [Act.put, List.setIfInBounds_toArray, List.set_cons_zero, List.set_cons_succ]
    refine take_on (i := 8) (by (simp only [List.getElem?_toArray, List.getElem?_cons_succ, List.getElem?_cons_zero]) <;> rfl) (by kernel_rfl) (by kernel_rfl) (by kernel_rfl) (by intro _ _ _ _ h; exact h) (by rfl) (by assumption) ?_
    apply Exists.intro
    refine ⟨?_, ?_⟩
    · intro W0 hSw
      try dsimp only at hSw
      go_simp
      try (with_reducible rfl)
    try simp only [Act.put, List.setIfInBounds_toArray, List.set_cons_zero, List.set_cons_succ]
    refine take_on (i := 9) (by (simp only [List.getElem?_toArray, List.getElem?_cons_succ, List.getElem?_cons_zero]) <;> rfl) (by kernel_rfl) (by kernel_rfl) (by kernel_rfl) (by intro _ _ _ _ h; exact h) (by rfl) (by assumption) ?_
    apply Exists.intro
    refine ⟨?_, ?_⟩
    · intro W0 hSw
      try dsimp only at hSw
      go_simp
      try (with_reducible rfl)
    try simp only [Act.put, List.setIfInBounds_toArray, List.set_cons_zero, List.set_cons_succ]
    refine take_on (i := 10) (by (simp only [List.getElem?_toArray, List.getElem?_cons_succ, List.getElem?_cons_zero]) <;> rfl) (by kernel_rfl) (by kernel_rfl) (by kernel_rfl) (by intro _ _ _ _ h; exact h) (by rfl) (by assumption) ?_
    apply Exists.intro
    refine ⟨?_, ?_⟩
    · intro W0 hSw
      try dsimp only at hSw
      go_simp
      try (with_reducible rfl)
    try simp only [Act.put, List.setIfInBounds_toArray, List.set_cons_zero, List.set_cons_succ]
    refine take_on (i := 11) (by (simp only [List.getElem?_toArray, List.getElem?_cons_succ, List.getElem?_cons_zero]) <;> rfl) (by kernel_rfl) (by kernel_rfl) (by kernel_rfl) (by intro _ _ _ _ h; exact h) (by rfl) (by assumption) ?_
    apply Exists.intro
    refine ⟨?_, ?_⟩
    · intro W0 hSw
      try dsimp only at hSw
      go_simp
      try (with_reducible rfl)
    try simp only [Act.put, List.setIfInBounds_toArray, List.set_cons_zero, List.set_cons_succ]
    refine take_on (i := 12) (by (simp only [List.getElem?_toArray, List.getElem?_cons_succ, List.getElem?_cons_zero]) <;> rfl) (by kernel_rfl) (by kernel_rfl) (by kernel_rfl) (by intro _ _ _ _ h; exact h) (by rfl) (by assumption) ?_
    apply Exists.intro
    refine ⟨?_, ?_⟩
    · intro W0 hSw
      try dsimp only at hSw
      go_simp
      try (with_reducible rfl)
    try simp only [Act.put, List.setIfInBounds_toArray, List.set_cons_zero, List.set_cons_succ]
    refine wpAnyH_ready (rs := [13]) (by kernel_rfl) (by simp) ?_
    refine (AllReadyH.cons (by (simp only [List.getElem?_toArray, List.getElem?_cons_succ, List.getElem?_cons_zero]) <;> rfl) (fun K hK => ?_) AllReadyH.nil)
    go_simp
    refine abs_env (E1.drew.cellset 0 rfl 36 (.int .i64 (ols - ls - lr))) (fun W6 E2 => ?_)
    simp only [List.set_cons_zero, List.set_cons_succ] at E2
    have hkeep := And.intro (E2.cell 1 rfl 6 rfl) (And.intro (E2.cell 2 rfl 6 rfl) (E2.cell 0 rfl 37 rfl))
    refine hK.out _ _ ?_ (fun hHeld => ?_)
    · (try dsimp only)
      first | (exact hkeep) | (exact ⟨E1.drew.cell 1 rfl 6 rfl, E1.drew.cell 2 rfl 6 rfl, E1.drew.cell 0 rfl 37 rfl⟩)
    clear hK K
    try simp only [Act.put, List.setIfInBounds_toArray, List.set_cons_zero, List.set_cons_succ]
    refine wpAnyH_done (by kernel_rfl) ?_ _
    rw [← HLM.out] at E2
    clear c36 cf E1 hHeld hkeep hw1 hw2
    have p7 := E2.cell 1 rfl 7 rfl
    have q7 := E2.cell 2 rfl 7 rfl
    go_wp2_with fail
    refine (AC _).mono ?_
    rintro e w6 ⟨rfl, rfl⟩
    have c38 := E2.cell 0 rfl 38 rfl
    have cf := fun n => E2.free 0 rfl n
    go_upto_region 7 with fail
    have E3 := E2.cellset 0 rfl 38 (.int .i64 (oal - al))
    simp only [List.set_cons_zero, List.set_cons_succ] at E3
    clear p7 q7 c38 cf E2 AC
    generalize World.setCell _ _ _ = W7 at *
    have hw1 : IntKind.i64.wrap (mo + ra + lm) = mo + ra + lm := by rw [IntKind.wrap_i64]; omega
    have hw2 : IntKind.i64.wrap (mo + ra + lm + lr) = mo + ra + lm + lr := by rw [IntKind.wrap_i64]; omega
    have hw3 : IntKind.i64.wrap (mo + ra + lm + lr + (oal - al)) = mo + ra + lm + lr + (oal - al) := by rw [IntKind.wrap_i64]; omega
    refine wp_region_held_drew (S := (fun V => V.rangeAt bp 34 [.int .i64 mo, .int .i64 ra] ∧ V.cell? ⟨bp, 36, none⟩ = some (.int .i64 lm) ∧ V.cell? ⟨bp, 37, none⟩ = some (.int .i64 lr) ∧ V.cell? ⟨bp, 38, none⟩ = some (.int .i64 (oal - al)))) (by kernel_rfl) ?_ (fun hHeld => ?_)
    · (try dsimp only)
      first | (exact ⟨E3.drew.rangeMid 0 rfl 34 [.int .i64 mo, .int .i64 ra] rfl, E3.drew.cell 0 rfl 36 rfl, E3.drew.cell 0 rfl 37 rfl, E3.drew.cell 0 rfl 38 rfl⟩)
    refine take_on (i := 0) (by (simp only [List.getElem?_toArray, List.getElem?_cons_succ, List.getElem?_cons_zero]) <;> rfl) (by kernel_rfl) (by kernel_rfl) (by kernel_rfl) (by intro _ _ _ _ h; exact h) (by rfl) (by assumption) ?_
    apply Exists.intro
    refine ⟨?_, ?_⟩
    · intro W0 hSw
      try dsimp only at hSw
      go_simp
      try (with_reducible rfl)
    try simp only [Act.put, List.setIfInBounds_toArray, List.set_cons_zero, List.set_cons_succ]
    refine take_on (i := 1) (by (simp only [List.getElem?_toArray, List.getElem?_cons_succ, List.getElem?_cons_zero]) <;> rfl) (by kernel_rfl) (by kernel_rfl) (by kernel_rfl) (by intro _ _ _ _ h; exact h) (by rfl) (by assumption) ?_
    apply Exists.intro
    refine ⟨?_, ?_⟩
    · intro W0 hSw
      try dsimp only at hSw
      go_simp
      try (with_reducible rfl)
    try simp only [Act.put, List.setIfInBounds_toArray, List.set_cons_zero, List.set_cons_succ]
    refine take_on (i := 2) (by (simp only [List.getElem?_toArray, List.getElem?_cons_succ, List.getElem?_cons_zero]) <;> rfl) (by kernel_rfl) (by kernel_rfl) (by kernel_rfl) (by intro _ _ _ _ h; exact h) (by rfl) (by assumption) ?_
    apply Exists.intro
    refine ⟨?_, ?_⟩
    · intro W0 hSw
      try dsimp only at hSw
      go_simp
      try (with_reducible rfl)
    try simp only [Act.put, List.setIfInBounds_toArray, List.set_cons_zero, List.set_cons_succ]
    refine take_on (i := 3) (by (simp only [List.getElem?_toArray, List.getElem?_cons_succ, List.getElem?_cons_zero]) <;> rfl) (by kernel_rfl) (by kernel_rfl) (by kernel_rfl) (by intro _ _ _ _ h; exact h) (by rfl) (by assumption) ?_
    apply Exists.intro
    refine ⟨?_, ?_⟩
    · intro W0 hSw
      try dsimp only at hSw
      go_simp
      try (with_reducible rfl)
    try simp only [Act.put, List.setIfInBounds_toArray, List.set_cons_zero, List.set_cons_succ]
    refine take_on (i := 4) (by (simp only [List.getElem?_toArray, List.getElem?_cons_succ, List.getElem?_cons_zero]) <;> rfl) (by kernel_rfl) (by kernel_rfl) (by kernel_rfl) (by intro _ _ _ _ h; exact h) (by rfl) (by assumption) ⟨_, fun W0 hSw => exec_load_mid 42 _ rfl bp 34 rfl [.int .i64 mo, .int .i64 ra] _ W0 (hSw.1) Tryz.underlying42 rfl (by kernel_rfl), ?_⟩
    try simp only [Act.put, List.setIfInBounds_toArray, List.set_cons_zero, List.set_cons_succ]
    refine take_on (i := 6) (by (simp only [List.getElem?_toArray, List.getElem?_cons_succ, List.getElem?_cons_zero]) <;> rfl) (by kernel_rfl) (by kernel_rfl) (by kernel_rfl) (by intro _ _ _ _ h; exact h) (by rfl) (by assumption) ?_
    apply Exists.intro
    refine ⟨?_, ?_⟩
    · intro W0 hSw
      try dsimp only at hSw
      go_simp
      try (with_reducible rfl)
    try simp only [Act.put, List.setIfInBounds_toArray, List.set_cons_zero, List.set_cons_succ]
    refine take_on (i := 7) (by (simp only [List.getElem?_toArray, List.getElem?_cons_succ, List.getElem?_cons_zero]) <;> rfl) (by kernel_rfl) (by kernel_rfl) (by kernel_rfl) (by intro _ _ _ _ h; exact h) (by rfl) (by assumption) ?_
    apply Exists.intro
    refine ⟨?_, ?_⟩
    · intro W0 hSw
      try dsimp only at hSw
      go_simp
      try (with_reducible rfl)
    try simp only [Act.put, List.setIfInBounds_toArray, List.set_cons_zero, List.set_cons_succ]
    refine take_on (i := 8) (by (simp only [List.getElem?_toArray, List.getElem?_cons_succ, List.getElem?_cons_zero]) <;> rfl) (by kernel_rfl) (by kernel_rfl) (by kernel_rfl) (by intro _ _ _ _ h; exact h) (by rfl) (by assumption) ?_
    apply Exists.intro
    refine ⟨?_, ?_⟩
    · intro W0 hSw
      try dsimp only at hSw
      go_simp
      try (with_reducible rfl)
    try simp only [Act.put, List.setIfInBounds_toArray, List.set_cons_zero, List.set_cons_succ]
    refine take_on (i := 9) (by (simp only [List.getElem?_toArray, List.getElem?_cons_succ, List.getElem?_cons_zero]) <;> rfl) (by kernel_rfl) (by kernel_rfl) (by kernel_rfl) (by intro _ _ _ _ h; exact h) (by rfl) (by assumption) ?_
    apply Exists.intro
    refine ⟨?_, ?_⟩
    · intro W0 hSw
      try dsimp only at hSw
      go_simp
      try (with_reducible rfl)
    try simp only [Act.put, List.setIfInBounds_toArray, List.set_cons_zero, List.set_cons_succ]
    refine take_on (i := 11) (by (simp only [List.getElem?_toArray, List.getElem?_cons_succ, List.getElem?_cons_zero]) <;> rfl) (by kernel_rfl) (by kernel_rfl) (by kernel_rfl) (by intro _ _ _ _ h; exact h) (by rfl) (by assumption) ?_
    apply Exists.intro
    refine ⟨?_, ?_⟩
    · intro W0 hSw
      try dsimp only at hSw
      go_simp
      try (with_reducible rfl)
    try simp only [Act.put, List.setIfInBounds_toArray, List.set_cons_zero, List.set_cons_succ]
    refine take_on (i := 12) (by (simp only [List.getElem?_toArray, List.getElem?_cons_succ, List.getElem?_cons_zero]) <;> rfl) (by kernel_rfl) (by kernel_rfl) (by kernel_rfl) (by intro _ _ _ _ h; exact h) (by rfl) (by assumption) ?_
    apply Exists.intro
    refine ⟨?_, ?_⟩
    · intro W0 hSw
      try dsimp only at hSw
      go_simp
      try (with_reducible rfl)
    try simp only [Act.put, List.setIfInBounds_toArray, List.set_cons_zero, List.set_cons_succ]
    refine take_on (i := 13) (by (simp only [List.getElem?_toArray, List.getElem?_cons_succ, List.getElem?_cons_zero]) <;> rfl) (by kernel_rfl) (by kernel_rfl) (by kernel_rfl) (by intro _ _ _ _ h; exact h) (by rfl) (by assumption) ?_
    apply Exists.intro
    refine ⟨?_, ?_⟩
    · intro W0 hSw
      try dsimp only at hSw
      go_simp
      try (with_reducible rfl)
    try simp only [Act.put, List.setIfInBounds_toArray, List.set_cons_zero, List.set_cons_succ]
    refine take_on (i := 14) (by (simp only [List.getElem?_toArray, List.getElem?_cons_succ, List.getElem?_cons_zero]) <;> rfl) (by kernel_rfl) (by kernel_rfl) (by kernel_rfl) (by intro _ _ _ _ h; exact h) (by rfl) (by assumption) ?_
    apply Exists.intro
    refine ⟨?_, ?_⟩
    · intro W0 hSw
      try dsimp only at hSw
      go_simp
      try (with_reducible rfl)
    try simp only [Act.put, List.setIfInBounds_toArray, List.set_cons_zero, List.set_cons_succ]
    refine take_on (i := 16) (by (simp only [List.getElem?_toArray, List.getElem?_cons_succ, List.getElem?_cons_zero]) <;> rfl) (by kernel_rfl) (by kernel_rfl) (by kernel_rfl) (by intro _ _ _ _ h; exact h) (by rfl) (by assumption) ?_
    apply Exists.intro
    refine ⟨?_, ?_⟩
    · intro W0 hSw
      try dsimp only at hSw
      go_simp
      try (with_reducible rfl)
    try simp only [Act.put, List.setIfInBounds_toArray, List.set_cons_zero, List.set_cons_succ]
    refine take_on (i := 17) (by (simp only [List.getElem?_toArray, List.getElem?_cons_succ, List.getElem?_cons_zero]) <;> rfl) (by kernel_rfl) (by kernel_rfl) (by kernel_rfl) (by intro _ _ _ _ h; exact h) (by rfl) (by assumption) ?_
    apply Exists.intro
    refine ⟨?_, ?_⟩
    · intro W0 hSw
      try dsimp only at hSw
      go_simp
      try (with_reducible rfl)
    try simp only [Act.put, List.setIfInBounds_toArray, List.set_cons_zero, List.set_cons_succ]
    refine take_on (i := 18) (by (simp only [List.getElem?_toArray, List.getElem?_cons_succ, List.getElem?_cons_zero]) <;> rfl) (by kernel_rfl) (by kernel_rfl) (by kernel_rfl) (by intro _ _ _ _ h; exact h) (by rfl) (by assumption) ?_
    apply Exists.intro
    refine ⟨?_, ?_⟩
    · intro W0 hSw
      try dsimp only at hSw
      go_simp
      try (with_reducible rfl)
    try simp only [Act.put, List.setIfInBounds_toArray, List.set_cons_zero, List.set_cons_succ]
    refine take_on (i := 19) (by (simp only [List.getElem?_toArray, List.getElem?_cons_succ, List.getElem?_cons_zero]) <;> rfl) (by kernel_rfl) (by kernel_rfl) (by kernel_rfl) (by intro _ _ _ _ h; exact h) (by rfl) (by assumption) ?_
    apply Exists.intro
    refine ⟨?_, ?_⟩
    · intro W0 hSw
      try dsimp only at hSw
      go_simp
      try (with_reducible rfl)
    try simp only [Act.put, List.setIfInBounds_toArray, List.set_cons_zero, List.set_cons_succ]
    refine wpAnyH_ready (rs := [5]) (by kernel_rfl) (by simp) ?_
    refine (AllReadyH.cons (by (simp only [List.getElem?_toArray, List.getElem?_cons_succ, List.getElem?_cons_zero]) <;> rfl) (fun K hK => ?_) AllReadyH.nil)
    go_simp
    refine (TC _).mono ?_
    rintro e w8 ⟨rfl, B8⟩
    have E4 := E3.drew.below B8
    have hkeep := And.intro (E4.rangeMid 0 rfl 34 [.int .i64 mo, .int .i64 ra] rfl) (And.intro (E4.cell 0 rfl 36 rfl) (And.intro (E4.cell 0 rfl 37 rfl) (E4.cell 0 rfl 38 rfl)))
    go_wp2_with fail
    have c39 := E4.cell 0 rfl 39 rfl
    have cf := fun n => E4.free 0 rfl n
    refine hK.out _ _ ?_ (fun hHeld => ?_)
    · (try dsimp only)
      first | (exact hkeep) | (exact ⟨E3.drew.rangeMid 0 rfl 34 [.int .i64 mo, .int .i64 ra] rfl, E3.drew.cell 0 rfl 36 rfl, E3.drew.cell 0 rfl 37 rfl, E3.drew.cell 0 rfl 38 rfl⟩)
    clear hK K
    try simp only [Act.put, List.setIfInBounds_toArray, List.set_cons_zero, List.set_cons_succ]
    refine take_on (i := 10) (by (simp only [List.getElem?_toArray, List.getElem?_cons_succ, List.getElem?_cons_zero]) <;> rfl) (by kernel_rfl) (by kernel_rfl) (by kernel_rfl) (by intro _ _ _ _ h; exact h) (by rfl) (by assumption) ?_
    apply Exists.intro
    refine ⟨?_, ?_⟩
    · intro W0 hSw
      try dsimp only at hSw
      go_simp
      try (with_reducible rfl)
    try simp only [Act.put, List.setIfInBounds_toArray, List.set_cons_zero, List.set_cons_succ]
    refine take_on (i := 15) (by (simp only [List.getElem?_toArray, List.getElem?_cons_succ, List.getElem?_cons_zero]) <;> rfl) (by kernel_rfl) (by kernel_rfl) (by kernel_rfl) (by intro _ _ _ _ h; exact h) (by rfl) (by assumption) ?_
    apply Exists.intro
    refine ⟨?_, ?_⟩
    · intro W0 hSw
      try dsimp only at hSw
      go_simp
      try (with_reducible rfl)
    try simp only [Act.put, List.setIfInBounds_toArray, List.set_cons_zero, List.set_cons_succ]
    refine take_on (i := 20) (by (simp only [List.getElem?_toArray, List.getElem?_cons_succ, List.getElem?_cons_zero]) <;> rfl) (by kernel_rfl) (by kernel_rfl) (by kernel_rfl) (by intro _ _ _ _ h; exact h) (by rfl) (by assumption) ?_
    apply Exists.intro
    refine ⟨?_, ?_⟩
    · intro W0 hSw
      try dsimp only at hSw
      go_simp
      try (with_reducible rfl)
    try simp only [Act.put, List.setIfInBounds_toArray, List.set_cons_zero, List.set_cons_succ]
    refine take_on (i := 21) (by (simp only [List.getElem?_toArray, List.getElem?_cons_succ, List.getElem?_cons_zero]) <;> rfl) (by kernel_rfl) (by kernel_rfl) (by kernel_rfl) (by intro _ _ _ _ h; exact h) (by rfl) (by assumption) ?_
    apply Exists.intro
    refine ⟨?_, ?_⟩
    · intro W0 hSw
      try dsimp only at hSw
      go_simp
      try (with_reducible rfl)
    try simp only [Act.put, List.setIfInBounds_toArray, List.set_cons_zero, List.set_cons_succ]
    refine take_on (i := 22) (by (simp only [List.getElem?_toArray, List.getElem?_cons_succ, List.getElem?_cons_zero]) <;> rfl) (by kernel_rfl) (by kernel_rfl) (by kernel_rfl) (by intro _ _ _ _ h; exact h) (by rfl) (by assumption) ?_
    apply Exists.intro
    refine ⟨?_, ?_⟩
    · intro W0 hSw
      try dsimp only at hSw
      go_simp
      try (with_reducible rfl)
    try simp only [Act.put, List.setIfInBounds_toArray, List.set_cons_zero, List.set_cons_succ]
    refine wpAnyH_ready (rs := [23]) (by kernel_rfl) (by simp) ?_
    refine (AllReadyH.cons (by (simp only [List.getElem?_toArray, List.getElem?_cons_succ, List.getElem?_cons_zero]) <;> rfl) (fun K hK => ?_) AllReadyH.nil)
    go_simp
    refine abs_env (E4.cellset 0 rfl 39 (.int .i64 (mo + ra + lm + lr + (oal - al)))) (fun W8 E5 => ?_)
    simp only [List.set_cons_zero, List.set_cons_succ] at E5
    have hkeep := And.intro (E5.rangeMid 0 rfl 34 [.int .i64 mo, .int .i64 ra] rfl) (And.intro (E5.cell 0 rfl 36 rfl) (And.intro (E5.cell 0 rfl 37 rfl) (E5.cell 0 rfl 38 rfl)))
    refine hK.out _ _ ?_ (fun hHeld => ?_)
    · (try dsimp only)
      first | (exact hkeep) | (exact ⟨E3.drew.rangeMid 0 rfl 34 [.int .i64 mo, .int .i64 ra] rfl, E3.drew.cell 0 rfl 36 rfl, E3.drew.cell 0 rfl 37 rfl, E3.drew.cell 0 rfl 38 rfl⟩)
    clear hK K
    try simp only [Act.put, List.setIfInBounds_toArray, List.set_cons_zero, List.set_cons_succ]
    refine wpAnyH_done (by kernel_rfl) ?_ _
    rw [← HDF.out] at E5
    clear c39 cf E3 E4 hHeld hkeep hw1 hw2 hw3 TC
    have hw1 : IntKind.i64.wrap (tax + df) = tax + df := by rw [IntKind.wrap_i64]; omega
    have hw2 : IntKind.i64.wrap (tax + df + up) = tax + df + up := by rw [IntKind.wrap_i64]; omega
    have c40 := E5.cell 0 rfl 40 rfl
    have cf := fun n => E5.free 0 rfl n
    go_upto_region 8 with fail
    refine wp_region_held_drew (S := (fun V => V.cell? ⟨bp, 30, none⟩ = some (.int .i64 tax) ∧ V.cell? ⟨bp, 39, none⟩ = some (.int .i64 df) ∧ V.cell? ⟨bp, 7, none⟩ = some (.int .i64 up))) (by kernel_rfl) ?_ (fun hHeld => ?_)
    · (try dsimp only)
      first | (exact ⟨E5.drew.cell 0 rfl 30 rfl, E5.drew.cell 0 rfl 39 rfl, E5.drew.cell 0 rfl 7 rfl⟩)
    refine take_on (i := 0) (by (simp only [List.getElem?_toArray, List.getElem?_cons_succ, List.getElem?_cons_zero]) <;> rfl) (by kernel_rfl) (by kernel_rfl) (by kernel_rfl) (by intro _ _ _ _ h; exact h) (by rfl) (by assumption) ?_
    apply Exists.intro
    refine ⟨?_, ?_⟩
    · intro W0 hSw
      try dsimp only at hSw
      go_simp
      try (with_reducible rfl)
    try simp only [Act.put, List.setIfInBounds_toArray, List.set_cons_zero, List.set_cons_succ]
    refine take_on (i := 1) (by (simp only [List.getElem?_toArray, List.getElem?_cons_succ, List.getElem?_cons_zero]) <;> rfl) (by kernel_rfl) (by kernel_rfl) (by kernel_rfl) (by intro _ _ _ _ h; exact h) (by rfl) (by assumption) ?_
    apply Exists.intro
    refine ⟨?_, ?_⟩
    · intro W0 hSw
      try dsimp only at hSw
      go_simp
      try (with_reducible rfl)
    try simp only [Act.put, List.setIfInBounds_toArray, List.set_cons_zero, List.set_cons_succ]
    refine take_on (i := 2) (by (simp only [List.getElem?_toArray, List.getElem?_cons_succ, List.getElem?_cons_zero]) <;> rfl) (by kernel_rfl) (by kernel_rfl) (by kernel_rfl) (by intro _ _ _ _ h; exact h) (by rfl) (by assumption) ?_
    apply Exists.intro
    refine ⟨?_, ?_⟩
    · intro W0 hSw
      try dsimp only at hSw
      go_simp
      try (with_reducible rfl)
    try simp only [Act.put, List.setIfInBounds_toArray, List.set_cons_zero, List.set_cons_succ]
    refine take_on (i := 3) (by (simp only [List.getElem?_toArray, List.getElem?_cons_succ, List.getElem?_cons_zero]) <;> rfl) (by kernel_rfl) (by kernel_rfl) (by kernel_rfl) (by intro _ _ _ _ h; exact h) (by rfl) (by assumption) ?_
    apply Exists.intro
    refine ⟨?_, ?_⟩
    · intro W0 hSw
      try dsimp only at hSw
      go_simp
      try (with_reducible rfl)
    try simp only [Act.put, List.setIfInBounds_toArray, List.set_cons_zero, List.set_cons_succ]
    refine take_on (i := 4) (by (simp only [List.getElem?_toArray, List.getElem?_cons_succ, List.getElem?_cons_zero]) <;> rfl) (by kernel_rfl) (by kernel_rfl) (by kernel_rfl) (by intro _ _ _ _ h; exact h) (by rfl) (by assumption) ?_
    apply Exists.intro
    refine ⟨?_, ?_⟩
    · intro W0 hSw
      try dsimp only at hSw
      go_simp
      try (with_reducible rfl)
    try simp only [Act.put, List.setIfInBounds_toArray, List.set_cons_zero, List.set_cons_succ]
    refine take_on (i := 5) (by (simp only [List.getElem?_toArray, List.getElem?_cons_succ, List.getElem?_cons_zero]) <;> rfl) (by kernel_rfl) (by kernel_rfl) (by kernel_rfl) (by intro _ _ _ _ h; exact h) (by rfl) (by assumption) ?_
    apply Exists.intro
    refine ⟨?_, ?_⟩
    · intro W0 hSw
      try dsimp only at hSw
      go_simp
      try (with_reducible rfl)
    try simp only [Act.put, List.setIfInBounds_toArray, List.set_cons_zero, List.set_cons_succ]
    refine take_on (i := 6) (by (simp only [List.getElem?_toArray, List.getElem?_cons_succ, List.getElem?_cons_zero]) <;> rfl) (by kernel_rfl) (by kernel_rfl) (by kernel_rfl) (by intro _ _ _ _ h; exact h) (by rfl) (by assumption) ?_
    apply Exists.intro
    refine ⟨?_, ?_⟩
    · intro W0 hSw
      try dsimp only at hSw
      go_simp
      try (with_reducible rfl)
    try simp only [Act.put, List.setIfInBounds_toArray, List.set_cons_zero, List.set_cons_succ]
    refine take_on (i := 7) (by (simp only [List.getElem?_toArray, List.getElem?_cons_succ, List.getElem?_cons_zero]) <;> rfl) (by kernel_rfl) (by kernel_rfl) (by kernel_rfl) (by intro _ _ _ _ h; exact h) (by rfl) (by assumption) ?_
    apply Exists.intro
    refine ⟨?_, ?_⟩
    · intro W0 hSw
      try dsimp only at hSw
      go_simp
      try (with_reducible rfl)
    try simp only [Act.put, List.setIfInBounds_toArray, List.set_cons_zero, List.set_cons_succ]
    refine take_on (i := 8) (by (simp only [List.getElem?_toArray, List.getElem?_cons_succ, List.getElem?_cons_zero]) <;> rfl) (by kernel_rfl) (by kernel_rfl) (by kernel_rfl) (by intro _ _ _ _ h; exact h) (by rfl) (by assumption) ?_
    apply Exists.intro
    refine ⟨?_, ?_⟩
    · intro W0 hSw
      try dsimp only at hSw
      go_simp
      try (with_reducible rfl)
    try simp only [Act.put, List.setIfInBounds_toArray, List.set_cons_zero, List.set_cons_succ]
    refine take_on (i := 9) (by (simp only [List.getElem?_toArray, List.getElem?_cons_succ, List.getElem?_cons_zero]) <;> rfl) (by kernel_rfl) (by kernel_rfl) (by kernel_rfl) (by intro _ _ _ _ h; exact h) (by rfl) (by assumption) ?_
    apply Exists.intro
    refine ⟨?_, ?_⟩
    · intro W0 hSw
      try dsimp only at hSw
      go_simp
      try (with_reducible rfl)
    try simp only [Act.put, List.setIfInBounds_toArray, List.set_cons_zero, List.set_cons_succ]
    refine take_on (i := 10) (by (simp only [List.getElem?_toArray, List.getElem?_cons_succ, List.getElem?_cons_zero]) <;> rfl) (by kernel_rfl) (by kernel_rfl) (by kernel_rfl) (by intro _ _ _ _ h; exact h) (by rfl) (by assumption) ?_
    apply Exists.intro
    refine ⟨?_, ?_⟩
    · intro W0 hSw
      try dsimp only at hSw
      go_simp
      try (with_reducible rfl)
    try simp only [Act.put, List.setIfInBounds_toArray, List.set_cons_zero, List.set_cons_succ]
    refine take_on (i := 11) (by (simp only [List.getElem?_toArray, List.getElem?_cons_succ, List.getElem?_cons_zero]) <;> rfl) (by kernel_rfl) (by kernel_rfl) (by kernel_rfl) (by intro _ _ _ _ h; exact h) (by rfl) (by assumption) ?_
    apply Exists.intro
    refine ⟨?_, ?_⟩
    · intro W0 hSw
      try dsimp only at hSw
      go_simp
      try (with_reducible rfl)
    try simp only [Act.put, List.setIfInBounds_toArray, List.set_cons_zero, List.set_cons_succ]
    refine take_on (i := 12) (by (simp only [List.getElem?_toArray, List.getElem?_cons_succ, List.getElem?_cons_zero]) <;> rfl) (by kernel_rfl) (by kernel_rfl) (by kernel_rfl) (by intro _ _ _ _ h; exact h) (by rfl) (by assumption) ?_
    apply Exists.intro
    refine ⟨?_, ?_⟩
    · intro W0 hSw
      try dsimp only at hSw
      go_simp
      try (with_reducible rfl)
    try simp only [Act.put, List.setIfInBounds_toArray, List.set_cons_zero, List.set_cons_succ]
    refine take_on (i := 13) (by (simp only [List.getElem?_toArray, List.getElem?_cons_succ, List.getElem?_cons_zero]) <;> rfl) (by kernel_rfl) (by kernel_rfl) (by kernel_rfl) (by intro _ _ _ _ h; exact h) (by rfl) (by assumption) ?_
    apply Exists.intro
    refine ⟨?_, ?_⟩
    · intro W0 hSw
      try dsimp only at hSw
      go_simp
      try (with_reducible rfl)
    try simp only [Act.put, List.setIfInBounds_toArray, List.set_cons_zero, List.set_cons_succ]
    refine take_on (i := 14) (by (simp only [List.getElem?_toArray, List.getElem?_cons_succ, List.getElem?_cons_zero]) <;> rfl) (by kernel_rfl) (by kernel_rfl) (by kernel_rfl) (by intro _ _ _ _ h; exact h) (by rfl) (by assumption) ?_
    apply Exists.intro
    refine ⟨?_, ?_⟩
    · intro W0 hSw
      try dsimp only at hSw
      go_simp
      try (with_reducible rfl)
    try simp only [Act.put, List.setIfInBounds_toArray, List.set_cons_zero, List.set_cons_succ]
    refine take_on (i := 15) (by (simp only [List.getElem?_toArray, List.getElem?_cons_succ, List.getElem?_cons_zero]) <;> rfl) (by kernel_rfl) (by kernel_rfl) (by kernel_rfl) (by intro _ _ _ _ h; exact h) (by rfl) (by assumption) ?_
    apply Exists.intro
    refine ⟨?_, ?_⟩
    · intro W0 hSw
      try dsimp only at hSw
      go_simp
      try (with_reducible rfl)
    try simp only [Act.put, List.setIfInBounds_toArray, List.set_cons_zero, List.set_cons_succ]
    refine take_on (i := 16) (by (simp only [List.getElem?_toArray, List.getElem?_cons_succ, List.getElem?_cons_zero]) <;> rfl) (by kernel_rfl) (by kernel_rfl) (by kernel_rfl) (by intro _ _ _ _ h; exact h) (by rfl) (by assumption) ?_
    apply Exists.intro
    refine ⟨?_, ?_⟩
    · intro W0 hSw
      try dsimp only at hSw
      go_simp
      try (with_reducible rfl)
    try simp only [Act.put, List.setIfInBounds_toArray, List.set_cons_zero, List.set_cons_succ]
    refine take_on (i := 17) (by (simp only [List.getElem?_toArray, List.getElem?_cons_succ, List.getElem?_cons_zero]) <;> rfl) (by kernel_rfl) (by kernel_rfl) (by kernel_rfl) (by intro _ _ _ _ h; exact h) (by rfl) (by assumption) ?_
    apply Exists.intro
    refine ⟨?_, ?_⟩
    · intro W0 hSw
      try dsimp only at hSw
      go_simp
      try (with_reducible rfl)
    try simp only [Act.put, List.setIfInBounds_toArray, List.set_cons_zero, List.set_cons_succ]
    refine take_on (i := 18) (by (simp only [List.getElem?_toArray, List.getElem?_cons_succ, List.getElem?_cons_zero]) <;> rfl) (by kernel_rfl) (by kernel_rfl) (by kernel_rfl) (by intro _ _ _ _ h; exact h) (by rfl) (by assumption) ?_
    apply Exists.intro
    refine ⟨?_, ?_⟩
    · intro W0 hSw
      try dsimp only at hSw
      go_simp
      try (with_reducible rfl)
    try simp only [Act.put, List.setIfInBounds_toArray, List.set_cons_zero, List.set_cons_succ]
    refine wpAnyH_ready (rs := [19]) (by kernel_rfl) (by simp) ?_
    refine (AllReadyH.cons (by (simp only [List.getElem?_toArray, List.getElem?_cons_succ, List.getElem?_cons_zero]) <;> rfl) (fun K hK => ?_) AllReadyH.nil)
    go_simp
    refine abs_env (E5.drew.cellset 0 rfl 40 (.int .i64 (tax + df + up))) (fun W9 E6 => ?_)
    simp only [List.set_cons_zero, List.set_cons_succ] at E6
    have hkeep := And.intro (E6.cell 0 rfl 30 rfl) (And.intro (E6.cell 0 rfl 39 rfl) (E6.cell 0 rfl 7 rfl))
    refine hK.out _ _ ?_ (fun hHeld => ?_)
    · (try dsimp only)
      first | (exact hkeep) | (exact ⟨E5.drew.cell 0 rfl 30 rfl, E5.drew.cell 0 rfl 39 rfl, E5.drew.cell 0 rfl 7 rfl⟩)
    clear hK K
    try simp only [Act.put, List.setIfInBounds_toArray, List.set_cons_zero, List.set_cons_succ]
    refine wpAnyH_done (by kernel_rfl) ?_ _
    rw [← HTO.out] at E6
    clear c40 cf E5 hHeld hkeep hw1 hw2
    have hw1 : IntKind.i64.wrap (tax + up) = tax + up := by rw [IntKind.wrap_i64]; omega
    have hw2 : IntKind.i64.wrap (tm - otm) = tm - otm := by rw [IntKind.wrap_i64]; omega
    have hw3 : IntKind.i64.wrap (ls - ols) = ls - ols := by rw [IntKind.wrap_i64]; omega
    have hw4 : IntKind.i64.wrap (al - oal) = al - oal := by rw [IntKind.wrap_i64]; omega
    go_upto_region 9 with fail
    refine wp_region_held_drew (S := (fun V => V.cell? ⟨bp, 36, none⟩ = some (.int .i64 lm) ∧ V.cell? ⟨bp, 37, none⟩ = some (.int .i64 lr) ∧ V.cell? ⟨bp, 38, none⟩ = some (.int .i64 (oal - al)) ∧ V.cell? ⟨bp, 30, none⟩ = some (.int .i64 tax) ∧ V.cell? ⟨bp, 7, none⟩ = some (.int .i64 up) ∧ V.cell? ⟨bp, 39, none⟩ = some (.int .i64 df) ∧ V.cell? ⟨bp, 40, none⟩ = some (.int .i64 tot) ∧ V.cell? ⟨ba, 5, none⟩ = some (.int .i64 otm) ∧ V.cell? ⟨ba, 6, none⟩ = some (.int .i64 ols) ∧ V.cell? ⟨ba, 7, none⟩ = some (.int .i64 oal) ∧ V.cell? ⟨bb, 5, none⟩ = some (.int .i64 tm) ∧ V.cell? ⟨bb, 6, none⟩ = some (.int .i64 ls) ∧ V.cell? ⟨bb, 7, none⟩ = some (.int .i64 al))) (by kernel_rfl) ?_ (fun hHeld => ?_)
    · (try dsimp only)
      first | (exact ⟨E6.drew.cell 0 rfl 36 rfl, E6.drew.cell 0 rfl 37 rfl, E6.drew.cell 0 rfl 38 rfl, E6.drew.cell 0 rfl 30 rfl, E6.drew.cell 0 rfl 7 rfl, E6.drew.cell 0 rfl 39 rfl, E6.drew.cell 0 rfl 40 rfl, E6.drew.cell 1 rfl 5 rfl, E6.drew.cell 1 rfl 6 rfl, E6.drew.cell 1 rfl 7 rfl, E6.drew.cell 2 rfl 5 rfl, E6.drew.cell 2 rfl 6 rfl, E6.drew.cell 2 rfl 7 rfl⟩)
    refine take_on (i := 0) (by (simp only [List.getElem?_toArray, List.getElem?_cons_succ, List.getElem?_cons_zero]) <;> rfl) (by kernel_rfl) (by kernel_rfl) (by kernel_rfl) (by intro _ _ _ _ h; exact h) (by rfl) (by assumption) ?_
    apply Exists.intro
    refine ⟨?_, ?_⟩
    · intro W0 hSw
      try dsimp only at hSw
      go_simp
      try (with_reducible rfl)
    try simp only [Act.put, List.setIfInBounds_toArray, List.set_cons_zero, List.set_cons_succ]
    refine take_on (i := 1) (by (simp only [List.getElem?_toArray, List.getElem?_cons_succ, List.getElem?_cons_zero]) <;> rfl) (by kernel_rfl) (by kernel_rfl) (by kernel_rfl) (by intro _ _ _ _ h; exact h) (by rfl) (by assumption) ?_
    apply Exists.intro
    refine ⟨?_, ?_⟩
    · intro W0 hSw
      try dsimp only at hSw
      go_simp
      try (with_reducible rfl)
    try simp only [Act.put, List.setIfInBounds_toArray, List.set_cons_zero, List.set_cons_succ]
    refine take_on (i := 2) (by (simp only [List.getElem?_toArray, List.getElem?_cons_succ, List.getElem?_cons_zero]) <;> rfl) (by kernel_rfl) (by kernel_rfl) (by kernel_rfl) (by intro _ _ _ _ h; exact h) (by rfl) (by assumption) ?_
    apply Exists.intro
    refine ⟨?_, ?_⟩
    · intro W0 hSw
      try dsimp only at hSw
      go_simp
      try (with_reducible rfl)
    try simp only [Act.put, List.setIfInBounds_toArray, List.set_cons_zero, List.set_cons_succ]
    refine take_on (i := 3) (by (simp only [List.getElem?_toArray, List.getElem?_cons_succ, List.getElem?_cons_zero]) <;> rfl) (by kernel_rfl) (by kernel_rfl) (by kernel_rfl) (by intro _ _ _ _ h; exact h) (by rfl) (by assumption) ?_
    apply Exists.intro
    refine ⟨?_, ?_⟩
    · intro W0 hSw
      try dsimp only at hSw
      go_simp
      try (with_reducible rfl)
    try simp only [Act.put, List.setIfInBounds_toArray, List.set_cons_zero, List.set_cons_succ]
    refine take_on (i := 4) (by (simp only [List.getElem?_toArray, List.getElem?_cons_succ, List.getElem?_cons_zero]) <;> rfl) (by kernel_rfl) (by kernel_rfl) (by kernel_rfl) (by intro _ _ _ _ h; exact h) (by rfl) (by assumption) ?_
    apply Exists.intro
    refine ⟨?_, ?_⟩
    · intro W0 hSw
      try dsimp only at hSw
      go_simp
      try (with_reducible rfl)
    try simp only [Act.put, List.setIfInBounds_toArray, List.set_cons_zero, List.set_cons_succ]
    refine take_on (i := 5) (by (simp only [List.getElem?_toArray, List.getElem?_cons_succ, List.getElem?_cons_zero]) <;> rfl) (by kernel_rfl) (by kernel_rfl) (by kernel_rfl) (by intro _ _ _ _ h; exact h) (by rfl) (by assumption) ?_
    apply Exists.intro
    refine ⟨?_, ?_⟩
    · intro W0 hSw
      try dsimp only at hSw
      go_simp
      try (with_reducible rfl)
    try simp only [Act.put, List.setIfInBounds_toArray, List.set_cons_zero, List.set_cons_succ]
    refine take_on (i := 6) (by (simp only [List.getElem?_toArray, List.getElem?_cons_succ, List.getElem?_cons_zero]) <;> rfl) (by kernel_rfl) (by kernel_rfl) (by kernel_rfl) (by intro _ _ _ _ h; exact h) (by rfl) (by assumption) ?_
    apply Exists.intro
    refine ⟨?_, ?_⟩
    · intro W0 hSw
      try dsimp only at hSw
      go_simp
      try (with_reducible rfl)
    try simp only [Act.put, List.setIfInBounds_toArray, List.set_cons_zero, List.set_cons_succ]
    refine take_on (i := 7) (by (simp only [List.getElem?_toArray, List.getElem?_cons_succ, List.getElem?_cons_zero]) <;> rfl) (by kernel_rfl) (by kernel_rfl) (by kernel_rfl) (by intro _ _ _ _ h; exact h) (by rfl) (by assumption) ?_
    apply Exists.intro
    refine ⟨?_, ?_⟩
    · intro W0 hSw
      try dsimp only at hSw
      go_simp
      try (with_reducible rfl)
    try simp only [Act.put, List.setIfInBounds_toArray, List.set_cons_zero, List.set_cons_succ]
    refine take_on (i := 8) (by (simp only [List.getElem?_toArray, List.getElem?_cons_succ, List.getElem?_cons_zero]) <;> rfl) (by kernel_rfl) (by kernel_rfl) (by kernel_rfl) (by intro _ _ _ _ h; exact h) (by rfl) (by assumption) ?_
    apply Exists.intro
    refine ⟨?_, ?_⟩
    · intro W0 hSw
      try dsimp only at hSw
      go_simp
      try (with_reducible rfl)
    try simp only [Act.put, List.setIfInBounds_toArray, List.set_cons_zero, List.set_cons_succ]
    refine take_on (i := 9) (by (simp only [List.getElem?_toArray, List.getElem?_cons_succ, List.getElem?_cons_zero]) <;> rfl) (by kernel_rfl) (by kernel_rfl) (by kernel_rfl) (by intro _ _ _ _ h; exact h) (by rfl) (by assumption) ?_
    apply Exists.intro
    refine ⟨?_, ?_⟩
    · intro W0 hSw
      try dsimp only at hSw
      go_simp
      try (with_reducible rfl)
    try simp only [Act.put, List.setIfInBounds_toArray, List.set_cons_zero, List.set_cons_succ]
    refine take_on (i := 10) (by (simp only [List.getElem?_toArray, List.getElem?_cons_succ, List.getElem?_cons_zero]) <;> rfl) (by kernel_rfl) (by kernel_rfl) (by kernel_rfl) (by intro _ _ _ _ h; exact h) (by rfl) (by assumption) ?_
    apply Exists.intro
    refine ⟨?_, ?_⟩
    · intro W0 hSw
      try dsimp only at hSw
      go_simp
      try (with_reducible rfl)
    try simp only [Act.put, List.setIfInBounds_toArray, List.set_cons_zero, List.set_cons_succ]
    refine take_on (i := 11) (by (simp only [List.getElem?_toArray, List.getElem?_cons_succ, List.getElem?_cons_zero]) <;> rfl) (by kernel_rfl) (by kernel_rfl) (by kernel_rfl) (by intro _ _ _ _ h; exact h) (by rfl) (by assumption) ?_
    apply Exists.intro
    refine ⟨?_, ?_⟩
    · intro W0 hSw
      try dsimp only at hSw
      go_simp
      try (with_reducible rfl)
    try simp only [Act.put, List.setIfInBounds_toArray, List.set_cons_zero, List.set_cons_succ]
    refine take_on (i := 12) (by (simp only [List.getElem?_toArray, List.getElem?_cons_succ, List.getElem?_cons_zero]) <;> rfl) (by kernel_rfl) (by kernel_rfl) (by kernel_rfl) (by intro _ _ _ _ h; exact h) (by rfl) (by assumption) ?_
    apply Exists.intro
    refine ⟨?_, ?_⟩
    · intro W0 hSw
      try dsimp only at hSw
      go_simp
      try (with_reducible rfl)
    try simp only [Act.put, List.setIfInBounds_toArray, List.set_cons_zero, List.set_cons_succ]
    refine take_on (i := 13) (by (simp only [List.getElem?_toArray, List.getElem?_cons_succ, List.getElem?_cons_zero]) <;> rfl) (by kernel_rfl) (by kernel_rfl) (by kernel_rfl) (by intro _ _ _ _ h; exact h) (by rfl) (by assumption) ?_
    apply Exists.intro
    refine ⟨?_, ?_⟩
    · intro W0 hSw
      try dsimp only at hSw
      go_simp
      try (with_reducible rfl)
    try simp only [Act.put, List.setIfInBounds_toArray, List.set_cons_zero, List.set_cons_succ]
    refine take_on (i := 14) (by (simp only [List.getElem?_toArray, List.getElem?_cons_succ, List.getElem?_cons_zero]) <;> rfl) (by kernel_rfl) (by kernel_rfl) (by kernel_rfl) (by intro _ _ _ _ h; exact h) (by rfl) (by assumption) ?_
    apply Exists.intro
    refine ⟨?_, ?_⟩
    · intro W0 hSw
      try dsimp only at hSw
      go_simp
      try (with_reducible rfl)
    try simp only [Act.put, List.setIfInBounds_toArray, List.set_cons_zero, List.set_cons_succ]
    refine take_on (i := 15) (by (simp only [List.getElem?_toArray, List.getElem?_cons_succ, List.getElem?_cons_zero]) <;> rfl) (by kernel_rfl) (by kernel_rfl) (by kernel_rfl) (by intro _ _ _ _ h; exact h) (by rfl) (by assumption) ?_
    apply Exists.intro
    refine ⟨?_, ?_⟩
    · intro W0 hSw
      try dsimp only at hSw
      go_simp
      try (with_reducible rfl)
    try simp only [Act.put, List.setIfInBounds_toArray, List.set_cons_zero, List.set_cons_succ]
    refine take_on (i := 16) (by (simp only [List.getElem?_toArray, List.getElem?_cons_succ, List.getElem?_cons_zero]) <;> rfl) (by kernel_rfl) (by kernel_rfl) (by kernel_rfl) (by intro _ _ _ _ h; exact h) (by rfl) (by assumption) ?_
    apply Exists.intro
    refine ⟨?_, ?_⟩
    · intro W0 hSw
      try dsimp only at hSw
      go_simp
      try (with_reducible rfl)
    try simp only [Act.put, List.setIfInBounds_toArray, List.set_cons_zero, List.set_cons_succ]
    refine take_on (i := 17) (by (simp only [List.getElem?_toArray, List.getElem?_cons_succ, List.getElem?_cons_zero]) <;> rfl) (by kernel_rfl) (by kernel_rfl) (by kernel_rfl) (by intro _ _ _ _ h; exact h) (by rfl) (by assumption) ?_
    apply Exists.intro
    refine ⟨?_, ?_⟩
    · intro W0 hSw
      try dsimp only at hSw
      go_simp
      try (with_reducible rfl)
    try simp only [Act.put, List.setIfInBounds_toArray, List.set_cons_zero, List.set_cons_succ]
    refine take_on (i := 18) (by (simp only [List.getElem?_toArray, List.getElem?_cons_succ, List.getElem?_cons_zero]) <;> rfl) (by kernel_rfl) (by kernel_rfl) (by kernel_rfl) (by intro _ _ _ _ h; exact h) (by rfl) (by assumption) ?_
    apply Exists.intro
    refine ⟨?_, ?_⟩
    · intro W0 hSw
      try dsimp only at hSw
      go_simp
      try (with_reducible rfl)
    try simp only [Act.put, List.setIfInBounds_toArray, List.set_cons_zero, List.set_cons_succ]
    refine take_on (i := 19) (by (simp only [List.getElem?_toArray, List.getElem?_cons_succ, List.getElem?_cons_zero]) <;> rfl) (by kernel_rfl) (by kernel_rfl) (by kernel_rfl) (by intro _ _ _ _ h; exact h) (by rfl) (by assumption) ?_
    apply Exists.intro
    refine ⟨?_, ?_⟩
    · intro W0 hSw
      try dsimp only at hSw
      go_simp
      try (with_reducible rfl)
    try simp only [Act.put, List.setIfInBounds_toArray, List.set_cons_zero, List.set_cons_succ]
    refine take_on (i := 20) (by (simp only [List.getElem?_toArray, List.getElem?_cons_succ, List.getElem?_cons_zero]) <;> rfl) (by kernel_rfl) (by kernel_rfl) (by kernel_rfl) (by intro _ _ _ _ h; exact h) (by rfl) (by assumption) ?_
    apply Exists.intro
    refine ⟨?_, ?_⟩
    · intro W0 hSw
      try dsimp only at hSw
      go_simp
      try (with_reducible rfl)
    try simp only [Act.put, List.setIfInBounds_toArray, List.set_cons_zero, List.set_cons_succ]
    refine take_on (i := 21) (by (simp only [List.getElem?_toArray, List.getElem?_cons_succ, List.getElem?_cons_zero]) <;> rfl) (by kernel_rfl) (by kernel_rfl) (by kernel_rfl) (by intro _ _ _ _ h; exact h) (by rfl) (by assumption) ?_
    apply Exists.intro
    refine ⟨?_, ?_⟩
    · intro W0 hSw
      try dsimp only at hSw
      go_simp
      try (with_reducible rfl)
    try simp only [Act.put, List.setIfInBounds_toArray, List.set_cons_zero, List.set_cons_succ]
    refine take_on (i := 22) (by (simp only [List.getElem?_toArray, List.getElem?_cons_succ, List.getElem?_cons_zero]) <;> rfl) (by kernel_rfl) (by kernel_rfl) (by kernel_rfl) (by intro _ _ _ _ h; exact h) (by rfl) (by assumption) ?_
    apply Exists.intro
    refine ⟨?_, ?_⟩
    · intro W0 hSw
      try dsimp only at hSw
      go_simp
      try (with_reducible rfl)
    try simp only [Act.put, List.setIfInBounds_toArray, List.set_cons_zero, List.set_cons_succ]
    refine take_on (i := 23) (by (simp only [List.getElem?_toArray, List.getElem?_cons_succ, List.getElem?_cons_zero]) <;> rfl) (by kernel_rfl) (by kernel_rfl) (by kernel_rfl) (by intro _ _ _ _ h; exact h) (by rfl) (by assumption) ?_
    apply Exists.intro
    refine ⟨?_, ?_⟩
    · intro W0 hSw
      try dsimp only at hSw
      go_simp
      try (with_reducible rfl)
    try simp only [Act.put, List.setIfInBounds_toArray, List.set_cons_zero, List.set_cons_succ]
    refine take_on (i := 24) (by (simp only [List.getElem?_toArray, List.getElem?_cons_succ, List.getElem?_cons_zero]) <;> rfl) (by kernel_rfl) (by kernel_rfl) (by kernel_rfl) (by intro _ _ _ _ h; exact h) (by rfl) (by assumption) ?_
    apply Exists.intro
    refine ⟨?_, ?_⟩
    · intro W0 hSw
      try dsimp only at hSw
      go_simp
      try (with_reducible rfl)
    try simp only [Act.put, List.setIfInBounds_toArray, List.set_cons_zero, List.set_cons_succ]
    refine take_on (i := 25) (by (simp only [List.getElem?_toArray, List.getElem?_cons_succ, List.getElem?_cons_zero]) <;> rfl) (by kernel_rfl) (by kernel_rfl) (by kernel_rfl) (by intro _ _ _ _ h; exact h) (by rfl) (by assumption) ?_
    apply Exists.intro
    refine ⟨?_, ?_⟩
    · intro W0 hSw
      try dsimp only at hSw
      go_simp
      try (with_reducible rfl)
    try simp only [Act.put, List.setIfInBounds_toArray, List.set_cons_zero, List.set_cons_succ]
    refine take_on (i := 26) (by (simp only [List.getElem?_toArray, List.getElem?_cons_succ, List.getElem?_cons_zero]) <;> rfl) (by kernel_rfl) (by kernel_rfl) (by kernel_rfl) (by intro _ _ _ _ h; exact h) (by rfl) (by assumption) ?_
    apply Exists.intro
    refine ⟨?_, ?_⟩
    · intro W0 hSw
      try dsimp only at hSw
      go_simp
      try (with_reducible rfl)
    try simp only [Act.put, List.setIfInBounds_toArray, List.set_cons_zero, List.set_cons_succ]
    refine take_on (i := 27) (by (simp only [List.getElem?_toArray, List.getElem?_cons_succ, List.getElem?_cons_zero]) <;> rfl) (by kernel_rfl) (by kernel_rfl) (by kernel_rfl) (by intro _ _ _ _ h; exact h) (by rfl) (by assumption) ?_
    apply Exists.intro
    refine ⟨?_, ?_⟩
    · intro W0 hSw
      try dsimp only at hSw
      go_simp
      try (with_reducible rfl)
    try simp only [Act.put, List.setIfInBounds_toArray, List.set_cons_zero, List.set_cons_succ]
    refine take_on (i := 28) (by (simp only [List.getElem?_toArray, List.getElem?_cons_succ, List.getElem?_cons_zero]) <;> rfl) (by kernel_rfl) (by kernel_rfl) (by kernel_rfl) (by intro _ _ _ _ h; exact h) (by rfl) (by assumption) ?_
    apply Exists.intro
    refine ⟨?_, ?_⟩
    · intro W0 hSw
      try dsimp only at hSw
      go_simp
      try (with_reducible rfl)
    try simp only [Act.put, List.setIfInBounds_toArray, List.set_cons_zero, List.set_cons_succ]
    refine take_on (i := 29) (by (simp only [List.getElem?_toArray, List.getElem?_cons_succ, List.getElem?_cons_zero]) <;> rfl) (by kernel_rfl) (by kernel_rfl) (by kernel_rfl) (by intro _ _ _ _ h; exact h) (by rfl) (by assumption) ?_
    apply Exists.intro
    refine ⟨?_, ?_⟩
    · intro W0 hSw
      try dsimp only at hSw
      go_simp
      try (with_reducible rfl)
    try simp only [Act.put, List.setIfInBounds_toArray, List.set_cons_zero, List.set_cons_succ]
    refine take_on (i := 30) (by (simp only [List.getElem?_toArray, List.getElem?_cons_succ, List.getElem?_cons_zero]) <;> rfl) (by kernel_rfl) (by kernel_rfl) (by kernel_rfl) (by intro _ _ _ _ h; exact h) (by rfl) (by assumption) ?_
    apply Exists.intro
    refine ⟨?_, ?_⟩
    · intro W0 hSw
      try dsimp only at hSw
      go_simp
      try (with_reducible rfl)
    try simp only [Act.put, List.setIfInBounds_toArray, List.set_cons_zero, List.set_cons_succ]
    refine take_on (i := 31) (by (simp only [List.getElem?_toArray, List.getElem?_cons_succ, List.getElem?_cons_zero]) <;> rfl) (by kernel_rfl) (by kernel_rfl) (by kernel_rfl) (by intro _ _ _ _ h; exact h) (by rfl) (by assumption) ?_
    apply Exists.intro
    refine ⟨?_, ?_⟩
    · intro W0 hSw
      try dsimp only at hSw
      go_simp
      try (with_reducible rfl)
    try simp only [Act.put, List.setIfInBounds_toArray, List.set_cons_zero, List.set_cons_succ]
    refine take_on (i := 32) (by (simp only [List.getElem?_toArray, List.getElem?_cons_succ, List.getElem?_cons_zero]) <;> rfl) (by kernel_rfl) (by kernel_rfl) (by kernel_rfl) (by intro _ _ _ _ h; exact h) (by rfl) (by assumption) ?_
    apply Exists.intro
    refine ⟨?_, ?_⟩
    · intro W0 hSw
      try dsimp only at hSw
      go_simp
      try (with_reducible rfl)
    try simp only [Act.put, List.setIfInBounds_toArray, List.set_cons_zero, List.set_cons_succ]
    refine take_on (i := 33) (by (simp only [List.getElem?_toArray, List.getElem?_cons_succ, List.getElem?_cons_zero]) <;> rfl) (by kernel_rfl) (by kernel_rfl) (by kernel_rfl) (by intro _ _ _ _ h; exact h) (by rfl) (by assumption) ?_
    apply Exists.intro
    refine ⟨?_, ?_⟩
    · intro W0 hSw
      try dsimp only at hSw
      go_simp
      try (with_reducible rfl)
    try simp only [Act.put, List.setIfInBounds_toArray, List.set_cons_zero, List.set_cons_succ]
    refine take_on (i := 34) (by (simp only [List.getElem?_toArray, List.getElem?_cons_succ, List.getElem?_cons_zero]) <;> rfl) (by kernel_rfl) (by kernel_rfl) (by kernel_rfl) (by intro _ _ _ _ h; exact h) (by rfl) (by assumption) ?_
    apply Exists.intro
    refine ⟨?_, ?_⟩
    · intro W0 hSw
      try dsimp only at hSw
      go_simp
      try (with_reducible rfl)
    try simp only [Act.put, List.setIfInBounds_toArray, List.set_cons_zero, List.set_cons_succ]
    refine take_on (i := 35) (by (simp only [List.getElem?_toArray, List.getElem?_cons_succ, List.getElem?_cons_zero]) <;> rfl) (by kernel_rfl) (by kernel_rfl) (by kernel_rfl) (by intro _ _ _ _ h; exact h) (by rfl) (by assumption) ?_
    apply Exists.intro
    refine ⟨?_, ?_⟩
    · intro W0 hSw
      try dsimp only at hSw
      go_simp
      try (with_reducible rfl)
    try simp only [Act.put, List.setIfInBounds_toArray, List.set_cons_zero, List.set_cons_succ]
    refine take_on (i := 36) (by (simp only [List.getElem?_toArray, List.getElem?_cons_succ, List.getElem?_cons_zero]) <;> rfl) (by kernel_rfl) (by kernel_rfl) (by kernel_rfl) (by intro _ _ _ _ h; exact h) (by rfl) (by assumption) ?_
    apply Exists.intro
    refine ⟨?_, ?_⟩
    · intro W0 hSw
      try dsimp only at hSw
      go_simp
      try (with_reducible rfl)
    try simp only [Act.put, List.setIfInBounds_toArray, List.set_cons_zero, List.set_cons_succ]
    refine take_on (i := 37) (by (simp only [List.getElem?_toArray, List.getElem?_cons_succ, List.getElem?_cons_zero]) <;> rfl) (by kernel_rfl) (by kernel_rfl) (by kernel_rfl) (by intro _ _ _ _ h; exact h) (by rfl) (by assumption) ?_
    apply Exists.intro
    refine ⟨?_, ?_⟩
    · intro W0 hSw
      try dsimp only at hSw
      go_simp
      try (with_reducible rfl)
    try simp only [Act.put, List.setIfInBounds_toArray, List.set_cons_zero, List.set_cons_succ]
    refine take_on (i := 38) (by (simp only [List.getElem?_toArray, List.getElem?_cons_succ, List.getElem?_cons_zero]) <;> rfl) (by kernel_rfl) (by kernel_rfl) (by kernel_rfl) (by intro _ _ _ _ h; exact h) (by rfl) (by assumption) ?_
    apply Exists.intro
    refine ⟨?_, ?_⟩
    · intro W0 hSw
      try dsimp only at hSw
      go_simp
      try (with_reducible rfl)
    try simp only [Act.put, List.setIfInBounds_toArray, List.set_cons_zero, List.set_cons_succ]
    refine take_on (i := 39) (by (simp only [List.getElem?_toArray, List.getElem?_cons_succ, List.getElem?_cons_zero]) <;> rfl) (by kernel_rfl) (by kernel_rfl) (by kernel_rfl) (by intro _ _ _ _ h; exact h) (by rfl) (by assumption) ?_
    apply Exists.intro
    refine ⟨?_, ?_⟩
    · intro W0 hSw
      try dsimp only at hSw
      go_simp
      try (with_reducible rfl)
    try simp only [Act.put, List.setIfInBounds_toArray, List.set_cons_zero, List.set_cons_succ]
    refine take_on (i := 40) (by (simp only [List.getElem?_toArray, List.getElem?_cons_succ, List.getElem?_cons_zero]) <;> rfl) (by kernel_rfl) (by kernel_rfl) (by kernel_rfl) (by intro _ _ _ _ h; exact h) (by rfl) (by assumption) ?_
    apply Exists.intro
    refine ⟨?_, ?_⟩
    · intro W0 hSw
      try dsimp only at hSw
      go_simp
      try (with_reducible rfl)
    try simp only [Act.put, List.setIfInBounds_toArray, List.set_cons_zero, List.set_cons_succ]
    refine take_on (i := 41) (by (simp only [List.getElem?_toArray, List.getElem?_cons_succ, List.getElem?_cons_zero]) <;> rfl) (by kernel_rfl) (by kernel_rfl) (by kernel_rfl) (by intro _ _ _ _ h; exact h) (by rfl) (by assumption) ?_
    apply Exists.intro
    refine ⟨?_, ?_⟩
    · intro W0 hSw
      try dsimp only at hSw
      go_simp
      try (with_reducible rfl)
    try simp only [Act.put, List.setIfInBounds_toArray, List.set_cons_zero, List.set_cons_succ]
    refine take_on (i := 42) (by (simp only [List.getElem?_toArray, List.getElem?_cons_succ, List.getElem?_cons_zero]) <;> rfl) (by kernel_rfl) (by kernel_rfl) (by kernel_rfl) (by intro _ _ _ _ h; exact h) (by rfl) (by assumption) ?_
    apply Exists.intro
    refine ⟨?_, ?_⟩
    · intro W0 hSw
      try dsimp only at hSw
      go_simp
      try (with_reducible rfl)
    try simp only [Act.put, List.setIfInBounds_toArray, List.set_cons_zero, List.set_cons_succ]
    refine take_on (i := 43) (by (simp only [List.getElem?_toArray, List.getElem?_cons_succ, List.getElem?_cons_zero]) <;> rfl) (by kernel_rfl) (by kernel_rfl) (by kernel_rfl) (by intro _ _ _ _ h; exact h) (by rfl) (by assumption) ?_
    apply Exists.intro
    refine ⟨?_, ?_⟩
    · intro W0 hSw
      try dsimp only at hSw
      go_simp
      try (with_reducible rfl)
    try simp only [Act.put, List.setIfInBounds_toArray, List.set_cons_zero, List.set_cons_succ]
    refine take_on (i := 44) (by (simp only [List.getElem?_toArray, List.getElem?_cons_succ, List.getElem?_cons_zero]) <;> rfl) (by kernel_rfl) (by kernel_rfl) (by kernel_rfl) (by intro _ _ _ _ h; exact h) (by rfl) (by assumption) ?_
    apply Exists.intro
    refine ⟨?_, ?_⟩
    · intro W0 hSw
      try dsimp only at hSw
      go_simp
      try (with_reducible rfl)
    try simp only [Act.put, List.setIfInBounds_toArray, List.set_cons_zero, List.set_cons_succ]
    refine take_on (i := 45) (by (simp only [List.getElem?_toArray, List.getElem?_cons_succ, List.getElem?_cons_zero]) <;> rfl) (by kernel_rfl) (by kernel_rfl) (by kernel_rfl) (by intro _ _ _ _ h; exact h) (by rfl) (by assumption) ?_
    apply Exists.intro
    refine ⟨?_, ?_⟩
    · intro W0 hSw
      try dsimp only at hSw
      go_simp
      try (with_reducible rfl)
    try simp only [Act.put, List.setIfInBounds_toArray, List.set_cons_zero, List.set_cons_succ]
    refine take_on (i := 48) (by (simp only [List.getElem?_toArray, List.getElem?_cons_succ, List.getElem?_cons_zero]) <;> rfl) (by kernel_rfl) (by kernel_rfl) (by kernel_rfl) (by intro _ _ _ _ h; exact h) (by rfl) (by assumption) ?_
    apply Exists.intro
    refine ⟨?_, ?_⟩
    · intro W0 hSw
      try dsimp only at hSw
      go_simp
      try (with_reducible rfl)
    try simp only [Act.put, List.setIfInBounds_toArray, List.set_cons_zero, List.set_cons_succ]
    refine wpAnyH_ready (rs := [46]) (by kernel_rfl) (by simp) ?_
    refine (AllReadyH.cons (by (simp only [List.getElem?_toArray, List.getElem?_cons_succ, List.getElem?_cons_zero]) <;> rfl) (fun K hK => ?_) AllReadyH.nil)
    go_simp
    refine abs_env (E6.drew.box1 [.int .i64 lm, .int .i64 lr, .int .i64 (oal - al), .int .i64 (tax + up), .int .i64 (tm - otm), .int .i64 (ls - ols), .int .i64 (al - oal), .int .i64 df, .int .i64 tot] 3) (fun W10 E7 => ?_)
    have hkeep := And.intro (E7.cell 0 rfl 36 rfl) (And.intro (E7.cell 0 rfl 37 rfl) (And.intro (E7.cell 0 rfl 38 rfl) (And.intro (E7.cell 0 rfl 30 rfl) (And.intro (E7.cell 0 rfl 7 rfl) (And.intro (E7.cell 0 rfl 39 rfl) (And.intro (E7.cell 0 rfl 40 rfl) (And.intro (E7.cell 2 rfl 5 rfl) (And.intro (E7.cell 2 rfl 6 rfl) (And.intro (E7.cell 2 rfl 7 rfl) (And.intro (E7.cell 3 rfl 5 rfl) (And.intro (E7.cell 3 rfl 6 rfl) (E7.cell 3 rfl 7 rfl))))))))))))
    refine hK.out _ _ ?_ (fun hHeld => ?_)
    · (try dsimp only)
      first | (exact hkeep) | (exact ⟨E6.drew.cell 0 rfl 36 rfl, E6.drew.cell 0 rfl 37 rfl, E6.drew.cell 0 rfl 38 rfl, E6.drew.cell 0 rfl 30 rfl, E6.drew.cell 0 rfl 7 rfl, E6.drew.cell 0 rfl 39 rfl, E6.drew.cell 0 rfl 40 rfl, E6.drew.cell 1 rfl 5 rfl, E6.drew.cell 1 rfl 6 rfl, E6.drew.cell 1 rfl 7 rfl, E6.drew.cell 2 rfl 5 rfl, E6.drew.cell 2 rfl 6 rfl, E6.drew.cell 2 rfl 7 rfl⟩)
    clear hK K
    try simp only [Act.put, List.setIfInBounds_toArray, List.set_cons_zero, List.set_cons_succ]
    refine take_on (i := 47) (by (simp only [List.getElem?_toArray, List.getElem?_cons_succ, List.getElem?_cons_zero]) <;> rfl) (by kernel_rfl) (by kernel_rfl) (by kernel_rfl) (by intro _ _ _ _ h; exact h) (by rfl) (by assumption) ?_
    apply Exists.intro
    refine ⟨?_, ?_⟩
    · intro W0 hSw
      try dsimp only at hSw
      go_simp
      try (with_reducible rfl)
    try simp only [Act.put, List.setIfInBounds_toArray, List.set_cons_zero, List.set_cons_succ]
    refine wpAnyH_done (by kernel_rfl) ?_ _
    clear hHeld hkeep hw1 hw2 hw3 hw4 E6
    rw [show W9.drew.heap = W9.heap from rfl] at E7
    obtain ⟨xs, hxs⟩ : ∃ xs : List Int, Hid (xs = [lm, lr, oal - al, tax + up, tm - otm, ls - ols, al - oal, df, tot]) := ⟨_, rfl⟩
    have SX : Sl kInt (Hp.box W9.heap.size [.int .i64 lm, .int .i64 lr, .int .i64 (oal - al), .int .i64 (tax + up), .int .i64 (tm - otm), .int .i64 (ls - ols), .int .i64 (al - oal), .int .i64 df, .int .i64 tot] 3) (some ⟨W9.heap.size, 0, none⟩) 9 xs := Sl.litInt (fr := (0, 0)) (by rw [hxs.out]; exact Hp.one_self _ _) (by rw [hxs.out]; rfl) (by decide)
    have hx9 : Hid (xs.length = 9) := by unfold Hid; rw [hxs.out]; rfl
    have HC : Hid (coL up onx olf otm ols oal nx tm ls al tax mo ra = xs) := by unfold Hid; rw [hxs.out, HL.out]
    generalize hk : Hp.box W9.heap.size [.int .i64 lm, .int .i64 lr, .int .i64 (oal - al), .int .i64 (tax + up), .int .i64 (tm - otm), .int .i64 (ls - ols), .int .i64 (al - oal), .int .i64 df, .int .i64 tot] 3 = kb at *
    clear hk
    generalize W9.heap.size = bk at *
    go_wp2
    go_loopw [152] (fun i wr => ∃ (q : Nat), q ≤ 9 ∧ i = .int .i64 q ∧ Hid (∀ z ∈ xs.take q, money z = true) ∧ Env w0 wr (Hp.box bp [v0, v1, v2, v3, v4, v5, v6, .int .i64 up, v8, .int .i64 opr, .slice A nA ca, .slice B nB cb, .int .i64 onx, .int .i64 olf, .int .i64 otm, .int .i64 ols, .int .i64 oal, .int .i64 cpr, .slice R nR cr, .slice Q nQ cq, .int .i64 nx, .int .i64 lf, .int .i64 tm, .int .i64 ls, .int .i64 al, v25, v26, v27, v28, v29, .int .i64 tax, v31, v32, v33, .int .i64 mo, .int .i64 ra, .int .i64 lm, .int .i64 lr, .int .i64 (oal - al), .int .i64 df, .int .i64 tot] 44 :: kb :: Hp.box ba [.int .i64 opr, .slice A nA ca, .slice B nB cb, .int .i64 onx, .int .i64 olf, .int .i64 otm, .int .i64 ols, .int .i64 oal] 37 :: Hp.box bb [.int .i64 cpr, .slice R nR cr, .slice Q nQ cq, .int .i64 nx, .int .i64 lf, .int .i64 tm, .int .i64 ls, .int .i64 al] 37 :: L)) (fun i _ => 9 - (intOf i).toNat)
    case atStart => exact ⟨0, by omega, rfl, by unfold Hid; simp, E7⟩
    case round =>
      clear E7
      obtain ⟨q, hq, rfl, hall, E⟩ := hrel
      by_cases hlt : q < 9
      · obtain ⟨x, hx⟩ := some_of_lt (show q < xs.length by rw [hx9.out]; exact hlt)
        obtain ⟨bx, ox, e1, c1⟩ := SX.int (E.sub 1 rfl) hx
        cases e1
        rw [Nat.zero_add] at c1
        have i1 : (0 : Int) ≤ (q : Int) := by omega
        have i2 : (q : Int) < 9 := by omega
        have MC := fun W : World => money_calls x W
        cases hm : money x with
        | false =>
          have HA : Hid ((coL up onx olf otm ols oal nx tm ls al tax mo ra).all money = false) := by
            unfold Hid; rw [HC.out, List.all_eq_false]
            exact ⟨x, List.mem_of_getElem? hx.out, by rw [hm]; decide⟩
          rw [hm] at MC
          clear hm
          have EL := (((E.drop 0).drop 0).drop 0).drop 0
          simp at EL
          go_wp2_with fail
          refine (MC _).mono ?_
          rintro e w6 ⟨rfl, rfl⟩
          go_wp2
          go_ret
          exact .inl ⟨HA.out, rfl, EL⟩
        | true =>
          have HN : Hid (∀ z ∈ xs.take (q + 1), money z = true) := fun z hz => by
            rw [take_next hx] at hz
            rcases List.mem_append.1 hz with hz | hz
            · exact hall.out z hz
            · simp at hz; subst hz; exact hm
          rw [hm] at MC
          clear hm
          go_wp2_with fail
          refine (MC _).mono ?_
          rintro e w6 ⟨rfl, rfl⟩
          go_wp2
          go_roundw
          case rel => exact ⟨q + 1, by omega, by go_num, HN, E⟩
          case measure => simp [intOf]; omega
      · obtain rfl : q = 9 := by omega
        have HA : Hid ((coL up onx olf otm ols oal nx tm ls al tax mo ra).all money = true) := by
          unfold Hid; rw [HC.out, List.all_eq_true]
          intro z hz
          exact hall.out z (by rw [List.take_of_length_le (by rw [hx9.out]; omega)]; exact hz)
        have EN := ((E.drop 1).drop 1).drop 1
        simp at EN
        go_wp2
        go_ret
        exact .inr ⟨HA.out, rfl, by rw [hLR, hLM, hDF, hTO]; exact EN⟩
end Go.Proofs.YtnfedcaehkcffaaGreat
end
