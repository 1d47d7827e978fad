/- The law CurrentLaws: for every input it returns true, and its arguments read behind the call as before it. No conditions. -/
import Derived.Test.YtpigoegjoagbnaaPk7
import Derived.OwnWalk
set_option linter.all false
section
/- Losses are conserved, plain. No program is named here. -/
namespace Go.Sl.CL
open Go Go.RowKit
variable {l : List STri}
theorem exp_sum (l : List STri) (y : Int) : vGone l y + sumC (vExp l y) = sumC l := sumC_filter (overV y)
theorem gone_pos (g : GoodV l) (y : Int) : 0 ≤ vGone l y ∧ vGone l y ≤ 100000000000 := by
  have h1 := sumC_pos (l := l.filter (overV y)) fun x hx => g.lo x (List.mem_filter.1 hx).1
  have h2 := sumC_pos (l := vExp l y) fun x hx => (g.exp y).lo x hx
  have h3 := exp_sum l y
  have h4 := g.mon
  unfold vGone at *; omega
theorem kept (g : GoodV l) {inc cap life year : Int} (hE : inc < 0 → vAddE (vExp l year) year (year + life) (-inc) = 0) :
    sumC l + curNew inc = sumC (curNext l inc cap life year) + (curVec l inc cap year).sum + vGone l year := by
  have hx := exp_sum l year
  have gx := g.exp year
  unfold curNext curNew
  by_cases h : 0 < inc
  · rw [if_pos h, if_neg (by omega)]
    obtain ⟨h1, h2⟩ := curVec_take (most := cap) (year := year) g h
    have : sumC (vTake (vExp l year) (curVec l inc cap year)) = sumC (vExp l year) - (curVec l inc cap year).sum := by
      unfold vTake; rw [if_pos h2, sumC_nz, sumC_less _ _ h1]
    omega
  · rw [if_neg h]
    have hV : curVec l inc cap year = [] := by unfold curVec; rw [if_neg h]
    rw [hV]
    by_cases h2 : inc < 0
    · rw [if_pos h2, if_pos h2]
      have : sumC (vAdd (vExp l year) year (year + life) (-inc)) = sumC (vExp l year) + -inc := by
        unfold vAdd; rw [if_pos (hE h2), sumC_put gx.rise]; omega
      simp; omega
    · rw [if_neg h2, if_neg h2]; simp; omega
theorem signs (g : GoodV l) {inc cap year : Int} (hc : 0 ≤ cap ∧ cap ≤ 1000000) (hi : -12000 ≤ inc ∧ inc ≤ 12000) :
    0 ≤ (curVec l inc cap year).sum ∧ (curVec l inc cap year).sum ≤ 12000 ∧ 0 ≤ curNew inc ∧ curNew inc ≤ 12000 ∧ 0 ≤ curTaxable l inc cap year ∧ curTaxable l inc cap year ≤ 12000 ∧
    (0 < inc → curTaxable l inc cap year = inc - (curVec l inc cap year).sum ∧ curNew inc = 0 ∧ (curVec l inc cap year).sum * 1000000 ≤ inc * cap) ∧
    (inc ≤ 0 → curTaxable l inc cap year = 0 ∧ curNew inc = -inc ∧ curVec l inc cap year = []) := by
  obtain ⟨b1, b2, b3⟩ := curVec_bd g inc cap year
  by_cases h : 0 < inc
  · have hN : curNew inc = 0 := by unfold curNew; rw [if_neg (by omega)]
    have b4 := b2 h
    have hT : curTaxable l inc cap year = inc - (curVec l inc cap year).sum := by unfold curTaxable; rw [hN]; omega
    have hm : (curVec l inc cap year).sum * 1000000 ≤ inc * cap := by
      have gx := g.exp year
      have hp : 0 ≤ inc * cap := Int.mul_nonneg (by omega) hc.1
      have hr : roomV inc cap = inc * cap / 1000000 := by
        unfold roomV floorV
        rw [if_neg (by omega), if_pos (by simp [floorOk]; omega), Int.tdiv_eq_ediv_of_nonneg hp]
      have hv := vecGo_bd year (vExp l year) (max 0 (roomV inc cap)) (fun x hx => by have := gx.lo x hx; omega) (by omega)
      have he : curVec l inc cap year = vecGo year (vExp l year) (max 0 (roomV inc cap)) := by unfold curVec; rw [if_pos h]
      rw [he]
      have h2 := hv.2.1
      rw [hr] at h2 ⊢
      omega
    exact ⟨b1, by omega, by omega, by omega, by omega, by omega, fun _ => ⟨hT, hN, hm⟩, fun h' => absurd h (by omega)⟩
  · have hV : curVec l inc cap year = [] := by unfold curVec; rw [if_neg h]
    have hN : curNew inc = -inc := by unfold curNew; split <;> omega
    have hT : curTaxable l inc cap year = 0 := by unfold curTaxable; rw [hV, hN]; simp; omega
    rw [hT, hN, hV]
    exact ⟨by simp, by simp, by omega, by omega, by omega, by omega, fun h' => absurd h' h, fun _ => ⟨rfl, rfl, rfl⟩⟩
theorem tax {tx r : Int} (h : 0 ≤ tx ∧ tx ≤ 12000) (hr : 0 ≤ r ∧ r ≤ 1000000) : 0 ≤ ofVal tx r ∧ ofVal tx r ≤ tx ∧ 0 ≤ tx * r ∧ tx * r ≤ 12000000000 ∧ -1000000 ≤ 2 * (tx * r - ofVal tx r * 1000000) ∧ 2 * (tx * r - ofVal tx r * 1000000) ≤ 1000000 := by
  have h1 : 0 ≤ tx * r := Int.mul_nonneg h.1 hr.1
  have h2 : tx * r ≤ tx * 1000000 := Int.mul_le_mul_of_nonneg_left hr.2 h.1
  unfold ofVal
  rw [if_pos (by simp [ofOk]; omega), partOf_pos h.1 hr.1]
  generalize tx * r = p at *
  omega
theorem err (g : GoodV l) {b p m cap life year r : Int} (ha : curArg cap life year r = true) (hi : incOk b p m = true) (hib : -12000 ≤ incV b p m ∧ incV b p m ≤ 12000) (hy : 0 ≤ year ∧ year ≤ 9) (hl : 0 ≤ life ∧ life ≤ 5) (h0 : curE l b p m cap life year r ≠ 0) : curE l b p m cap life year r = 5 ∨ curE l b p m cap life year r = 6 := by
  unfold curE at *
  rw [if_neg (by simp [ha]), if_neg (by simp [hi])] at *
  split at h0
  · rename_i hn
    rw [if_pos hn]
    unfold vAddE at *
    rw [if_neg (by simp [vOk, money]; omega)] at *
    split
    · exact .inr rfl
    · rename_i h2
      rw [if_neg h2] at h0
      split
      · rename_i h3; rw [if_pos h3] at h0; exact absurd rfl h0
      · rename_i h3
        rw [if_neg h3] at h0
        split
        · exact .inl rfl
        · rename_i h4; rw [if_neg h4] at h0; exact absurd rfl h0
  · exact absurd rfl h0
end Go.Sl.CL
end
section
/- The walk of law15.CurrentLaws. -/
namespace Go.Proofs.Ytpigoegjoagbnaa
open Go.RowKit Go.Sl
set_option maxHeartbeats 4000000
set_option maxRecDepth 100000
set_option linter.unusedSimpArgs false
theorem curLaws_calls (A : Option Addr) (ca : Nat) (zs : List Int) (k : Hp) (a1 a2 a3 a4 a5 a6 a7 : Int) (w : World) (ks : k.sub w) (sx : Sl kInt k A ca zs) (hz : ∀ n ∈ zs, I64 n) :
    Calls Try.prog 11 #[.slice A zs.length ca, .int .i64 a1, .int .i64 a2, .int .i64 a3, .int .i64 a4, .int .i64 a5, .int .i64 a6, .int .i64 a7] w fun e w' => e = .returned (.bool true) ∧ Below w.heap.size w w' := by
  have m1 := sx.small
  have LC := playLosses_calls A ca zs k w ks sx hz
  clear hz
  have lg := lossOf_good zs
  have W1 := fun W => within_calls a1 20001 W (by omega) (by omega)
  have W2 := fun W => within_calls a2 2001 W (by omega) (by omega)
  have W3 := fun W => within_calls a3 2001 W (by omega) (by omega)
  have W4 := fun W => within_calls a4 1000001 W (by omega) (by omega)
  have W5 := fun W => within_calls a5 5 W (by omega) (by omega)
  have W6 := fun W => within_calls a6 9 W (by omega) (by omega)
  have W7 := fun W => within_calls a7 1000001 W (by omega) (by omega)
  have p1 := within_lo a1 (n := 20001) (by omega)
  have q1 := within_hi a1 (n := 20001) (by omega)
  have p2 := within_lo a2 (n := 2001) (by omega)
  have q2 := within_hi a2 (n := 2001) (by omega)
  have p3 := within_lo a3 (n := 2001) (by omega)
  have q3 := within_hi a3 (n := 2001) (by omega)
  have p4 := within_lo a4 (n := 1000001) (by omega)
  have q4 := within_hi a4 (n := 1000001) (by omega)
  have p5 := within_lo a5 (n := 5) (by omega)
  have q5 := within_hi a5 (n := 5) (by omega)
  have p6 := within_lo a6 (n := 9) (by omega)
  have q6 := within_hi a6 (n := 9) (by omega)
  have p7 := within_lo a7 (n := 1000001) (by omega)
  have q7 := within_hi a7 (n := 1000001) (by omega)
  generalize lossOf zs = l at *
  generalize within a1 20001 = v1 at *
  generalize within a2 2001 = v2 at *
  generalize within a3 2001 = v3 at *
  generalize within a4 1000001 = cap at *
  generalize within a5 5 = life at *
  generalize within a6 9 = year at *
  generalize within a7 1000001 = r at *
  have hi : incOk (v1 - 10000) (v2 - 1000) (v3 - 1000) = true := by simp [incOk, money]; omega
  have hinc : incV (v1 - 10000) (v2 - 1000) (v3 - 1000) = v1 - 10000 + (v2 - 1000) - (v3 - 1000) := by unfold incV; rw [if_pos hi]
  have hib : -12000 ≤ incV (v1 - 10000) (v2 - 1000) (v3 - 1000) ∧ incV (v1 - 10000) (v2 - 1000) (v3 - 1000) ≤ 12000 := by rw [hinc]; omega
  have ha : curArg cap life year r = true := by simp [curArg, rightRate]; omega
  have HErr := CL.err (l := l) (r := r) lg ha hi hib (by omega) (by omega)
  have HErr := Lib.hid HErr
  go_enter Try.func11, Try.ntmps11
  go_wp2_with fail
  refine LC.mono ?_
  rintro e w1 ⟨h1, b1, rfl, S1, E1⟩
  go_wp2_with fail
  refine (of13_calls b1 h1 l w1 (E1.sub 0 rfl) S1).mono ?_
  rintro e w2 ⟨h2, b2, rfl, S2, F2⟩
  have E2 := E1.join F2
  simp at E2
  go_wp2_with fail
  refine (W1 _).mono ?_
  rintro e w' ⟨rfl, rfl⟩
  go_wp2_with fail
  refine (W2 _).mono ?_
  rintro e w' ⟨rfl, rfl⟩
  go_wp2_with fail
  refine (W3 _).mono ?_
  rintro e w' ⟨rfl, rfl⟩
  go_wp2_with fail
  refine (W4 _).mono ?_
  rintro e w' ⟨rfl, rfl⟩
  go_wp2_with fail
  refine (W7 _).mono ?_
  rintro e w' ⟨rfl, rfl⟩
  go_wp2_with fail
  refine (W5 _).mono ?_
  rintro e w' ⟨rfl, rfl⟩
  go_wp2_with fail
  refine (W6 _).mono ?_
  rintro e w' ⟨rfl, rfl⟩
  clear W1 W2 W3 W4 W5 W6 W7 LC F2
  rcases Int.decEq (curE l (v1 - 10000) (v2 - 1000) (v3 - 1000) cap life year r) 0 with hE | hE
  · have hcase := HErr.out hE
    obtain ⟨q, hq⟩ : ∃ q, curE l (v1 - 10000) (v2 - 1000) (v3 - 1000) cap life year r = q := ⟨_, rfl⟩
    rw [hq] at hcase hE
    have HQ := Lib.hid hq
    have HNe := Lib.hid hE
    clear hE hq HErr hi hinc hib ha
    go_wp2_with fail
    refine (Vnt.tax_err S2 E2 1 rfl _ _ _ cap life year r HQ.out HNe.out).mono ?_
    rintro e w3 ⟨rfl, E3⟩
    rcases hcase with rfl | rfl
    · go_wp2_with fail
      refine (wakes15 _).mono ?_
      rintro e w4 ⟨rfl, B4⟩
      go_wp2
      go_ret
      exact ⟨rfl, (E3.alloc' _).low.trans (B4.mono (E3.alloc' _).low.size)⟩
    · go_wp2_with fail
      refine (wakes15 _).mono ?_
      rintro e w4 ⟨rfl, B4⟩
      go_wp2
      go_ret
      exact ⟨rfl, (E3.alloc' _).low.trans (B4.mono (E3.alloc' _).low.size)⟩
  · have HQ := Lib.hid hE
    have hE' : incV (v1 - 10000) (v2 - 1000) (v3 - 1000) < 0 → vAddE (vExp l year) year (year + life) (-(incV (v1 - 10000) (v2 - 1000) (v3 - 1000))) = 0 := fun hn => by
      have := hE; unfold curE at this; rw [if_neg (by simp [ha]), if_neg (by simp [hi]), if_pos hn] at this; exact this
    have hk := CL.kept lg (cap := cap) hE'
    obtain ⟨s1, s2, s3, s4, s5, s6, s7, s8⟩ := CL.signs lg (cap := cap) (year := year) ⟨p4, by omega⟩ hib
    obtain ⟨x1, x2, x3, x4, x5, x6⟩ := CL.tax (r := r) ⟨s5, s6⟩ ⟨p7, by omega⟩
    obtain ⟨g1, g2⟩ := CL.gone_pos lg year
    have gs := sumC_pos lg.lo
    have gm := lg.mon
    have gn := GoodV.cur lg (incV (v1 - 10000) (v2 - 1000) (v3 - 1000)) cap life year
    have gs2 := sumC_pos gn.lo
    have gm2 := gn.mon
    clear hE hE' HErr hi ha gn
    generalize hinc' : incV (v1 - 10000) (v2 - 1000) (v3 - 1000) = inc at *
    have R1 := Lib.hid hinc'
    generalize hvg : vGone l year = vg at *
    generalize hvec : curVec l inc cap year = vec at *
    generalize hus : vec.sum = us at *
    generalize hnw : curNew inc = nw at *
    generalize htx : curTaxable l inc cap year = tx at *
    generalize hov : ofVal tx r = ov at *
    generalize hnx : curNext l inc cap life year = nx at *
    obtain ⟨vn, hvn⟩ : ∃ i, vec.length = i := ⟨_, rfl⟩
    have R2 := Lib.hid hvg
    have R3 := Lib.hid hvec
    have R4 := Lib.hid hus
    have R5 := Lib.hid hnw
    have R6 := Lib.hid htx
    have R7 := Lib.hid hov
    have R8 := Lib.hid hnx
    have R9 := Lib.hid hvn
    obtain ⟨T1, hT1⟩ : ∃ i, sumC l = i := ⟨_, rfl⟩
    obtain ⟨T2, hT2⟩ : ∃ i, sumC nx = i := ⟨_, rfl⟩
    rw [hT1] at hk gs gm
    rw [hT2] at hk gs2 gm2
    have HT1 := Lib.hid hT1
    have HT2 := Lib.hid hT2
    have hw1 : IntKind.i64.wrap (v1 - 10000 + (v2 - 1000)) = v1 - 10000 + (v2 - 1000) := by rw [IntKind.wrap_i64]; omega
    have hw2 : IntKind.i64.wrap (v1 - 10000 + (v2 - 1000) - (v3 - 1000)) = inc := by rw [IntKind.wrap_i64]; omega
    have hw3 : IntKind.i64.wrap (T1 + nw) = T1 + nw := by rw [IntKind.wrap_i64]; omega
    have hw4 : IntKind.i64.wrap (T2 + us) = T2 + us := by rw [IntKind.wrap_i64]; omega
    have hw5 : IntKind.i64.wrap (T2 + us + vg) = T1 + nw := by rw [IntKind.wrap_i64]; omega
    have d1 : decide (tx < 0) = false := by simp; omega
    have d2 : decide (ov < 0) = false := by simp; omega
    have d3 : decide (tx < ov) = false := by simp; omega
    have d4 : decide (us < 0) = false := by simp; omega
    have d5 : decide (nw < 0) = false := by simp; omega
    have d6 : decide (vg < 0) = false := by simp; omega
    clear hvg hvec hus hnw htx hov hnx hvn hT1 hT2 hk hinc hinc'
    go_wp2_with fail
    refine (Vnt.tax_ok S2 E2 1 rfl _ _ _ cap life year r HQ.out R1.out R2.out R3.out R4.out R5.out R6.out R7.out R8.out R9.out).mono ?_
    rintro e w3 ⟨h3, b3, hv3, V3, cp3, rfl, S3, o3, E3⟩
    simp at E3
    go_upto_region 7 with fail
    replace E3 := E3.alloc (.cells #[.int .i64 inc, .int .i64 vg, .int .i64 us, .int .i64 nw, .int .i64 tx, .int .i64 ov, .slice V3 vn cp3] 51)
    simp at E3
    obtain ⟨W3, hW3⟩ : ∃ W3 : World, W3 = w3.alloc (.cells #[.int .i64 inc, .int .i64 vg, .int .i64 us, .int .i64 nw, .int .i64 tx, .int .i64 ov, .slice V3 vn cp3] 51) := ⟨_, rfl⟩
    rw [← hW3] at E3
    rw [← hW3]
    clear hW3
    have y0 := E3.cell 4 rfl 0 rfl
    have y1 := E3.cell 4 rfl 1 rfl
    have y2 := E3.cell 4 rfl 2 rfl
    have y3 := E3.cell 4 rfl 3 rfl
    have y4 := E3.cell 4 rfl 4 rfl
    have y5 := E3.cell 4 rfl 5 rfl
    have y6 := E3.cell 4 rfl 6 rfl
    generalize w3.heap.size = bw at *
    have KC : ∀ V, Env w V [h1, h2, h3, hv3, Hp.box bw [.int .i64 inc, .int .i64 vg, .int .i64 us, .int .i64 nw, .int .i64 tx, .int .i64 ov, .slice V3 vn cp3] 51] → V.cell? ⟨bw, 0, none⟩ = some (.int .i64 inc) ∧ V.cell? ⟨bw, 1, none⟩ = some (.int .i64 vg) ∧ V.cell? ⟨bw, 2, none⟩ = some (.int .i64 us) ∧ V.cell? ⟨bw, 3, none⟩ = some (.int .i64 nw) ∧ V.cell? ⟨bw, 4, none⟩ = some (.int .i64 tx) ∧ V.cell? ⟨bw, 5, none⟩ = some (.int .i64 ov) := fun V E => ⟨E.cell 4 rfl 0 rfl, E.cell 4 rfl 1 rfl, E.cell 4 rfl 2 rfl, E.cell 4 rfl 3 rfl, E.cell 4 rfl 4 rfl, E.cell 4 rfl 5 rfl⟩
    go_upto_region 9 with fail
    clear s3 s4 s5 s6 x1 x2 g1 g2 gs gm gs2 gm2 p1 q1 p2 q2 p3 q3
    refine wp_region_held_drew (S := (fun V => V.cell? ⟨bw, 0, none⟩ = some (.int .i64 inc) ∧ V.cell? ⟨bw, 1, none⟩ = some (.int .i64 vg) ∧ V.cell? ⟨bw, 2, none⟩ = some (.int .i64 us) ∧ V.cell? ⟨bw, 3, none⟩ = some (.int .i64 nw) ∧ V.cell? ⟨bw, 4, none⟩ = some (.int .i64 tx) ∧ V.cell? ⟨bw, 5, none⟩ = some (.int .i64 ov))) (by kernel_rfl) ?_ (fun hHeld => ?_)
    · (try dsimp only)
      first | (go_keep)
    refine take_on (i := 0) (by (simp only [List.getElem?_toArray, List.getElem?_cons_succ, List.getElem?_cons_zero]) <;> rfl) (by kernel_rfl) (by kernel_rfl) (by kernel_rfl) (by intro _ _ _ _ h; exact h) (by rfl) (by assumption) ?_
    apply Exists.intro
    refine ⟨?_, ?_⟩
    · intro W0 hSw
      try dsimp only at hSw
      go_simp
      try (with_reducible rfl)
    try simp only [Act.put, List.setIfInBounds_toArray, List.set_cons_zero, List.set_cons_succ]
    refine take_on (i := 1) (by (simp only [List.getElem?_toArray, List.getElem?_cons_succ, List.getElem?_cons_zero]) <;> rfl) (by kernel_rfl) (by kernel_rfl) (by kernel_rfl) (by intro _ _ _ _ h; exact h) (by rfl) (by assumption) ?_
    apply Exists.intro
    refine ⟨?_, ?_⟩
    · intro W0 hSw
      try dsimp only at hSw
      go_simp
      try (with_reducible rfl)
    try simp only [Act.put, List.setIfInBounds_toArray, List.set_cons_zero, List.set_cons_succ]
    refine take_on (i := 2) (by (simp only [List.getElem?_toArray, List.getElem?_cons_succ, List.getElem?_cons_zero]) <;> rfl) (by kernel_rfl) (by kernel_rfl) (by kernel_rfl) (by intro _ _ _ _ h; exact h) (by rfl) (by assumption) ?_
    apply Exists.intro
    refine ⟨?_, ?_⟩
    · intro W0 hSw
      try dsimp only at hSw
      go_simp
      try (with_reducible rfl)
    try simp only [Act.put, List.setIfInBounds_toArray, List.set_cons_zero, List.set_cons_succ]
    refine take_on (i := 3) (by (simp only [List.getElem?_toArray, List.getElem?_cons_succ, List.getElem?_cons_zero]) <;> rfl) (by kernel_rfl) (by kernel_rfl) (by kernel_rfl) (by intro _ _ _ _ h; exact h) (by rfl) (by assumption) ?_
    apply Exists.intro
    refine ⟨?_, ?_⟩
    · intro W0 hSw
      try dsimp only at hSw
      go_simp
      try (with_reducible rfl)
    try simp only [Act.put, List.setIfInBounds_toArray, List.set_cons_zero, List.set_cons_succ]
    refine take_on (i := 4) (by (simp only [List.getElem?_toArray, List.getElem?_cons_succ, List.getElem?_cons_zero]) <;> rfl) (by kernel_rfl) (by kernel_rfl) (by kernel_rfl) (by intro _ _ _ _ h; exact h) (by rfl) (by assumption) ?_
    apply Exists.intro
    refine ⟨?_, ?_⟩
    · intro W0 hSw
      try dsimp only at hSw
      go_simp
      try (with_reducible rfl)
    try simp only [Act.put, List.setIfInBounds_toArray, List.set_cons_zero, List.set_cons_succ]
    refine take_on (i := 5) (by (simp only [List.getElem?_toArray, List.getElem?_cons_succ, List.getElem?_cons_zero]) <;> rfl) (by kernel_rfl) (by kernel_rfl) (by kernel_rfl) (by intro _ _ _ _ h; exact h) (by rfl) (by assumption) ?_
    apply Exists.intro
    refine ⟨?_, ?_⟩
    · intro W0 hSw
      try dsimp only at hSw
      go_simp
      try (with_reducible rfl)
    try simp only [Act.put, List.setIfInBounds_toArray, List.set_cons_zero, List.set_cons_succ]
    refine take_on (i := 6) (by (simp only [List.getElem?_toArray, List.getElem?_cons_succ, List.getElem?_cons_zero]) <;> rfl) (by kernel_rfl) (by kernel_rfl) (by kernel_rfl) (by intro _ _ _ _ h; exact h) (by rfl) (by assumption) ?_
    apply Exists.intro
    refine ⟨?_, ?_⟩
    · intro W0 hSw
      try dsimp only at hSw
      go_simp
      try (with_reducible rfl)
    try simp only [Act.put, List.setIfInBounds_toArray, List.set_cons_zero, List.set_cons_succ]
    refine take_on (i := 7) (by (simp only [List.getElem?_toArray, List.getElem?_cons_succ, List.getElem?_cons_zero]) <;> rfl) (by kernel_rfl) (by kernel_rfl) (by kernel_rfl) (by intro _ _ _ _ h; exact h) (by rfl) (by assumption) ?_
    apply Exists.intro
    refine ⟨?_, ?_⟩
    · intro W0 hSw
      try dsimp only at hSw
      go_simp
      try (with_reducible rfl)
    try simp only [Act.put, List.setIfInBounds_toArray, List.set_cons_zero, List.set_cons_succ]
    refine take_on (i := 8) (by (simp only [List.getElem?_toArray, List.getElem?_cons_succ, List.getElem?_cons_zero]) <;> rfl) (by kernel_rfl) (by kernel_rfl) (by kernel_rfl) (by intro _ _ _ _ h; exact h) (by rfl) (by assumption) ?_
    apply Exists.intro
    refine ⟨?_, ?_⟩
    · intro W0 hSw
      try dsimp only at hSw
      go_simp
      try (with_reducible rfl)
    try simp only [Act.put, List.setIfInBounds_toArray, List.set_cons_zero, List.set_cons_succ]
    refine take_on (i := 9) (by (simp only [List.getElem?_toArray, List.getElem?_cons_succ, List.getElem?_cons_zero]) <;> rfl) (by kernel_rfl) (by kernel_rfl) (by kernel_rfl) (by intro _ _ _ _ h; exact h) (by rfl) (by assumption) ?_
    apply Exists.intro
    refine ⟨?_, ?_⟩
    · intro W0 hSw
      try dsimp only at hSw
      go_simp
      try (with_reducible rfl)
    try simp only [Act.put, List.setIfInBounds_toArray, List.set_cons_zero, List.set_cons_succ]
    refine take_on (i := 10) (by (simp only [List.getElem?_toArray, List.getElem?_cons_succ, List.getElem?_cons_zero]) <;> rfl) (by kernel_rfl) (by kernel_rfl) (by kernel_rfl) (by intro _ _ _ _ h; exact h) (by rfl) (by assumption) ?_
    apply Exists.intro
    refine ⟨?_, ?_⟩
    · intro W0 hSw
      try dsimp only at hSw
      go_simp
      try (with_reducible rfl)
    try simp only [Act.put, List.setIfInBounds_toArray, List.set_cons_zero, List.set_cons_succ]
    refine take_on (i := 11) (by (simp only [List.getElem?_toArray, List.getElem?_cons_succ, List.getElem?_cons_zero]) <;> rfl) (by kernel_rfl) (by kernel_rfl) (by kernel_rfl) (by intro _ _ _ _ h; exact h) (by rfl) (by assumption) ?_
    apply Exists.intro
    refine ⟨?_, ?_⟩
    · intro W0 hSw
      try dsimp only at hSw
      go_simp
      try (with_reducible rfl)
    try simp only [Act.put, List.setIfInBounds_toArray, List.set_cons_zero, List.set_cons_succ]
    refine take_on (i := 12) (by (simp only [List.getElem?_toArray, List.getElem?_cons_succ, List.getElem?_cons_zero]) <;> rfl) (by kernel_rfl) (by kernel_rfl) (by kernel_rfl) (by intro _ _ _ _ h; exact h) (by rfl) (by assumption) ?_
    apply Exists.intro
    refine ⟨?_, ?_⟩
    · intro W0 hSw
      try dsimp only at hSw
      go_simp
      try (with_reducible rfl)
    try simp only [Act.put, List.setIfInBounds_toArray, List.set_cons_zero, List.set_cons_succ]
    refine take_on (i := 13) (by (simp only [List.getElem?_toArray, List.getElem?_cons_succ, List.getElem?_cons_zero]) <;> rfl) (by kernel_rfl) (by kernel_rfl) (by kernel_rfl) (by intro _ _ _ _ h; exact h) (by rfl) (by assumption) ?_
    apply Exists.intro
    refine ⟨?_, ?_⟩
    · intro W0 hSw
      try dsimp only at hSw
      go_simp
      try (with_reducible rfl)
    try simp only [Act.put, List.setIfInBounds_toArray, List.set_cons_zero, List.set_cons_succ]
    refine take_on (i := 15) (by (simp only [List.getElem?_toArray, List.getElem?_cons_succ, List.getElem?_cons_zero]) <;> rfl) (by kernel_rfl) (by kernel_rfl) (by kernel_rfl) (by intro _ _ _ _ h; exact h) (by rfl) (by assumption) ?_
    apply Exists.intro
    refine ⟨?_, ?_⟩
    · intro W0 hSw
      try dsimp only at hSw
      go_simp
      try (with_reducible rfl)
    try simp only [Act.put, List.setIfInBounds_toArray, List.set_cons_zero, List.set_cons_succ]
    refine take_on (i := 16) (by (simp only [List.getElem?_toArray, List.getElem?_cons_succ, List.getElem?_cons_zero]) <;> rfl) (by kernel_rfl) (by kernel_rfl) (by kernel_rfl) (by intro _ _ _ _ h; exact h) (by rfl) (by assumption) ?_
    apply Exists.intro
    refine ⟨?_, ?_⟩
    · intro W0 hSw
      try dsimp only at hSw
      go_simp
      try (with_reducible rfl)
    try simp only [Act.put, List.setIfInBounds_toArray, List.set_cons_zero, List.set_cons_succ]
    refine take_on (i := 18) (by (simp only [List.getElem?_toArray, List.getElem?_cons_succ, List.getElem?_cons_zero]) <;> rfl) (by kernel_rfl) (by kernel_rfl) (by kernel_rfl) (by intro _ _ _ _ h; exact h) (by rfl) (by assumption) ?_
    apply Exists.intro
    refine ⟨?_, ?_⟩
    · intro W0 hSw
      try dsimp only at hSw
      go_simp
      try (with_reducible rfl)
    try simp only [Act.put, List.setIfInBounds_toArray, List.set_cons_zero, List.set_cons_succ]
    refine take_on (i := 20) (by (simp only [List.getElem?_toArray, List.getElem?_cons_succ, List.getElem?_cons_zero]) <;> rfl) (by kernel_rfl) (by kernel_rfl) (by kernel_rfl) (by intro _ _ _ _ h; exact h) (by rfl) (by assumption) ?_
    apply Exists.intro
    refine ⟨?_, ?_⟩
    · intro W0 hSw
      try dsimp only at hSw
      go_simp
      try (with_reducible rfl)
    try simp only [Act.put, List.setIfInBounds_toArray, List.set_cons_zero, List.set_cons_succ]
    refine take_on (i := 21) (by (simp only [List.getElem?_toArray, List.getElem?_cons_succ, List.getElem?_cons_zero]) <;> rfl) (by kernel_rfl) (by kernel_rfl) (by kernel_rfl) (by intro _ _ _ _ h; exact h) (by rfl) (by assumption) ?_
    apply Exists.intro
    refine ⟨?_, ?_⟩
    · intro W0 hSw
      try dsimp only at hSw
      go_simp
      try (with_reducible rfl)
    try simp only [Act.put, List.setIfInBounds_toArray, List.set_cons_zero, List.set_cons_succ]
    refine take_on (i := 23) (by (simp only [List.getElem?_toArray, List.getElem?_cons_succ, List.getElem?_cons_zero]) <;> rfl) (by kernel_rfl) (by kernel_rfl) (by kernel_rfl) (by intro _ _ _ _ h; exact h) (by rfl) (by assumption) ?_
    apply Exists.intro
    refine ⟨?_, ?_⟩
    · intro W0 hSw
      try dsimp only at hSw
      go_simp
      try (with_reducible rfl)
    try simp only [Act.put, List.setIfInBounds_toArray, List.set_cons_zero, List.set_cons_succ]
    refine take_on (i := 24) (by (simp only [List.getElem?_toArray, List.getElem?_cons_succ, List.getElem?_cons_zero]) <;> rfl) (by kernel_rfl) (by kernel_rfl) (by kernel_rfl) (by intro _ _ _ _ h; exact h) (by rfl) (by assumption) ?_
    apply Exists.intro
    refine ⟨?_, ?_⟩
    · intro W0 hSw
      try dsimp only at hSw
      go_simp
      try (with_reducible rfl)
    try simp only [Act.put, List.setIfInBounds_toArray, List.set_cons_zero, List.set_cons_succ]
    refine wpAnyH_ready (rs := [14]) (by kernel_rfl) (by simp) ?_
    refine AllReadyH.cons (by (simp only [List.getElem?_toArray, List.getElem?_cons_succ, List.getElem?_cons_zero]) <;> rfl) (fun K hK => ?_) AllReadyH.nil
    go_simp
    refine (Vnt.left S2 (by repeat (first | (with_reducible exact E3) | (with_reducible apply Env.drew) | (with_reducible apply Env.drewN) | (with_reducible apply Env.alloc'))) 1 rfl HT1.out).mono ?_
    rintro e w4 ⟨rfl, E4⟩
    have hkeep := KC _ E4
    go_wp2_with fail
    refine hK.out _ _ ?_ (fun hHeld => ?_)
    · (try dsimp only)
      first | (exact hkeep) | (go_keep)
    clear hK K
    try simp only [Act.put, List.setIfInBounds_toArray, List.set_cons_zero, List.set_cons_succ]
    refine take_on (i := 17) (by (simp only [List.getElem?_toArray, List.getElem?_cons_succ, List.getElem?_cons_zero]) <;> rfl) (by kernel_rfl) (by kernel_rfl) (by kernel_rfl) (by intro _ _ _ _ h; exact h) (by rfl) (by assumption) ?_
    apply Exists.intro
    refine ⟨?_, ?_⟩
    · intro W0 hSw
      try dsimp only at hSw
      go_simp
      try (with_reducible rfl)
    try simp only [Act.put, List.setIfInBounds_toArray, List.set_cons_zero, List.set_cons_succ]
    refine wpAnyH_ready (rs := [19]) (by kernel_rfl) (by simp) ?_
    refine AllReadyH.cons (by (simp only [List.getElem?_toArray, List.getElem?_cons_succ, List.getElem?_cons_zero]) <;> rfl) (fun K hK => ?_) AllReadyH.nil
    go_simp
    refine (Vnt.left S3 E4 2 rfl HT2.out).mono ?_
    rintro e w5 ⟨rfl, E5⟩
    have hkeep := KC _ E5
    go_wp2_with fail
    refine hK.out _ _ ?_ (fun hHeld => ?_)
    · (try dsimp only)
      first | (exact hkeep) | (go_keep)
    clear hK K
    try simp only [Act.put, List.setIfInBounds_toArray, List.set_cons_zero, List.set_cons_succ]
    refine take_on (i := 22) (by (simp only [List.getElem?_toArray, List.getElem?_cons_succ, List.getElem?_cons_zero]) <;> rfl) (by kernel_rfl) (by kernel_rfl) (by kernel_rfl) (by intro _ _ _ _ h; exact h) (by rfl) (by assumption) ?_
    apply Exists.intro
    refine ⟨?_, ?_⟩
    · intro W0 hSw
      try dsimp only at hSw
      go_simp
      try (with_reducible rfl)
    try simp only [Act.put, List.setIfInBounds_toArray, List.set_cons_zero, List.set_cons_succ]
    refine take_on (i := 25) (by (simp only [List.getElem?_toArray, List.getElem?_cons_succ, List.getElem?_cons_zero]) <;> rfl) (by kernel_rfl) (by kernel_rfl) (by kernel_rfl) (by intro _ _ _ _ h; exact h) (by rfl) (by assumption) ?_
    apply Exists.intro
    refine ⟨?_, ?_⟩
    · intro W0 hSw
      try dsimp only at hSw
      go_simp
      try (with_reducible rfl)
    try simp only [Act.put, List.setIfInBounds_toArray, List.set_cons_zero, List.set_cons_succ]
    refine take_on (i := 26) (by (simp only [List.getElem?_toArray, List.getElem?_cons_succ, List.getElem?_cons_zero]) <;> rfl) (by kernel_rfl) (by kernel_rfl) (by kernel_rfl) (by intro _ _ _ _ h; exact h) (by rfl) (by assumption) ?_
    apply Exists.intro
    refine ⟨?_, ?_⟩
    · intro W0 hSw
      try dsimp only at hSw
      go_simp
      try (with_reducible rfl)
    try simp only [Act.put, List.setIfInBounds_toArray, List.set_cons_zero, List.set_cons_succ]
    refine take_on (i := 27) (by (simp only [List.getElem?_toArray, List.getElem?_cons_succ, List.getElem?_cons_zero]) <;> rfl) (by kernel_rfl) (by kernel_rfl) (by kernel_rfl) (by intro _ _ _ _ h; exact h) (by rfl) (by assumption) ?_
    apply Exists.intro
    refine ⟨?_, ?_⟩
    · intro W0 hSw
      try dsimp only at hSw
      go_simp
      try (with_reducible rfl)
    try simp only [Act.put, List.setIfInBounds_toArray, List.set_cons_zero, List.set_cons_succ]
    refine take_on (i := 28) (by (simp only [List.getElem?_toArray, List.getElem?_cons_succ, List.getElem?_cons_zero]) <;> rfl) (by kernel_rfl) (by kernel_rfl) (by kernel_rfl) (by intro _ _ _ _ h; exact h) (by rfl) (by assumption) ?_
    apply Exists.intro
    refine ⟨?_, ?_⟩
    · intro W0 hSw
      try dsimp only at hSw
      go_simp
      try (with_reducible rfl)
    try simp only [Act.put, List.setIfInBounds_toArray, List.set_cons_zero, List.set_cons_succ]
    refine take_on (i := 29) (by (simp only [List.getElem?_toArray, List.getElem?_cons_succ, List.getElem?_cons_zero]) <;> rfl) (by kernel_rfl) (by kernel_rfl) (by kernel_rfl) (by intro _ _ _ _ h; exact h) (by rfl) (by assumption) ?_
    apply Exists.intro
    refine ⟨?_, ?_⟩
    · intro W0 hSw
      try dsimp only at hSw
      go_simp
      try (with_reducible rfl)
    try simp only [Act.put, List.setIfInBounds_toArray, List.set_cons_zero, List.set_cons_succ]
    refine take_on (i := 30) (by (simp only [List.getElem?_toArray, List.getElem?_cons_succ, List.getElem?_cons_zero]) <;> rfl) (by kernel_rfl) (by kernel_rfl) (by kernel_rfl) (by intro _ _ _ _ h; exact h) (by rfl) (by assumption) ?_
    apply Exists.intro
    refine ⟨?_, ?_⟩
    · intro W0 hSw
      try dsimp only at hSw
      go_simp
      try (with_reducible rfl)
    try simp only [Act.put, List.setIfInBounds_toArray, List.set_cons_zero, List.set_cons_succ]
    refine take_on (i := 31) (by (simp only [List.getElem?_toArray, List.getElem?_cons_succ, List.getElem?_cons_zero]) <;> rfl) (by kernel_rfl) (by kernel_rfl) (by kernel_rfl) (by intro _ _ _ _ h; exact h) (by rfl) (by assumption) ?_
    apply Exists.intro
    refine ⟨?_, ?_⟩
    · intro W0 hSw
      try dsimp only at hSw
      go_simp
      try (with_reducible rfl)
    try simp only [Act.put, List.setIfInBounds_toArray, List.set_cons_zero, List.set_cons_succ]
    refine take_on (i := 32) (by (simp only [List.getElem?_toArray, List.getElem?_cons_succ, List.getElem?_cons_zero]) <;> rfl) (by kernel_rfl) (by kernel_rfl) (by kernel_rfl) (by intro _ _ _ _ h; exact h) (by rfl) (by assumption) ?_
    apply Exists.intro
    refine ⟨?_, ?_⟩
    · intro W0 hSw
      try dsimp only at hSw
      go_simp
      try (with_reducible rfl)
    try simp only [Act.put, List.setIfInBounds_toArray, List.set_cons_zero, List.set_cons_succ]
    refine take_on (i := 33) (by (simp only [List.getElem?_toArray, List.getElem?_cons_succ, List.getElem?_cons_zero]) <;> rfl) (by kernel_rfl) (by kernel_rfl) (by kernel_rfl) (by intro _ _ _ _ h; exact h) (by rfl) (by assumption) ?_
    apply Exists.intro
    refine ⟨?_, ?_⟩
    · intro W0 hSw
      try dsimp only at hSw
      go_simp
      try (with_reducible rfl)
    try simp only [Act.put, List.setIfInBounds_toArray, List.set_cons_zero, List.set_cons_succ]
    refine take_on (i := 34) (by (simp only [List.getElem?_toArray, List.getElem?_cons_succ, List.getElem?_cons_zero]) <;> rfl) (by kernel_rfl) (by kernel_rfl) (by kernel_rfl) (by intro _ _ _ _ h; exact h) (by rfl) (by assumption) ?_
    apply Exists.intro
    refine ⟨?_, ?_⟩
    · intro W0 hSw
      try dsimp only at hSw
      go_simp
      try (with_reducible rfl)
    try simp only [Act.put, List.setIfInBounds_toArray, List.set_cons_zero, List.set_cons_succ]
    refine take_on (i := 35) (by (simp only [List.getElem?_toArray, List.getElem?_cons_succ, List.getElem?_cons_zero]) <;> rfl) (by kernel_rfl) (by kernel_rfl) (by kernel_rfl) (by intro _ _ _ _ h; exact h) (by rfl) (by assumption) ?_
    apply Exists.intro
    refine ⟨?_, ?_⟩
    · intro W0 hSw
      try dsimp only at hSw
      go_simp
      try (with_reducible rfl)
    try simp only [Act.put, List.setIfInBounds_toArray, List.set_cons_zero, List.set_cons_succ]
    refine take_on (i := 36) (by (simp only [List.getElem?_toArray, List.getElem?_cons_succ, List.getElem?_cons_zero]) <;> rfl) (by kernel_rfl) (by kernel_rfl) (by kernel_rfl) (by intro _ _ _ _ h; exact h) (by rfl) (by assumption) ?_
    apply Exists.intro
    refine ⟨?_, ?_⟩
    · intro W0 hSw
      try dsimp only at hSw
      go_simp
      try (with_reducible rfl)
    try simp only [Act.put, List.setIfInBounds_toArray, List.set_cons_zero, List.set_cons_succ]
    refine take_on (i := 37) (by (simp only [List.getElem?_toArray, List.getElem?_cons_succ, List.getElem?_cons_zero]) <;> rfl) (by kernel_rfl) (by kernel_rfl) (by kernel_rfl) (by intro _ _ _ _ h; exact h) (by rfl) (by assumption) ?_
    apply Exists.intro
    refine ⟨?_, ?_⟩
    · intro W0 hSw
      try dsimp only at hSw
      go_simp
      try (with_reducible rfl)
    try simp only [Act.put, List.setIfInBounds_toArray, List.set_cons_zero, List.set_cons_succ]
    refine take_on (i := 38) (by (simp only [List.getElem?_toArray, List.getElem?_cons_succ, List.getElem?_cons_zero]) <;> rfl) (by kernel_rfl) (by kernel_rfl) (by kernel_rfl) (by intro _ _ _ _ h; exact h) (by rfl) (by assumption) ?_
    apply Exists.intro
    refine ⟨?_, ?_⟩
    · intro W0 hSw
      try dsimp only at hSw
      go_simp
      try (with_reducible rfl)
    try simp only [Act.put, List.setIfInBounds_toArray, List.set_cons_zero, List.set_cons_succ]
    refine take_on (i := 39) (by (simp only [List.getElem?_toArray, List.getElem?_cons_succ, List.getElem?_cons_zero]) <;> rfl) (by kernel_rfl) (by kernel_rfl) (by kernel_rfl) (by intro _ _ _ _ h; exact h) (by rfl) (by assumption) ?_
    apply Exists.intro
    refine ⟨?_, ?_⟩
    · intro W0 hSw
      try dsimp only at hSw
      go_simp
      try (with_reducible rfl)
    try simp only [Act.put, List.setIfInBounds_toArray, List.set_cons_zero, List.set_cons_succ]
    refine take_on (i := 40) (by (simp only [List.getElem?_toArray, List.getElem?_cons_succ, List.getElem?_cons_zero]) <;> rfl) (by kernel_rfl) (by kernel_rfl) (by kernel_rfl) (by intro _ _ _ _ h; exact h) (by rfl) (by assumption) ?_
    apply Exists.intro
    refine ⟨?_, ?_⟩
    · intro W0 hSw
      try dsimp only at hSw
      go_simp
      try (with_reducible rfl)
    try simp only [Act.put, List.setIfInBounds_toArray, List.set_cons_zero, List.set_cons_succ]
    refine take_on (i := 41) (by (simp only [List.getElem?_toArray, List.getElem?_cons_succ, List.getElem?_cons_zero]) <;> rfl) (by kernel_rfl) (by kernel_rfl) (by kernel_rfl) (by intro _ _ _ _ h; exact h) (by rfl) (by assumption) ?_
    apply Exists.intro
    refine ⟨?_, ?_⟩
    · intro W0 hSw
      try dsimp only at hSw
      go_simp
      try (with_reducible rfl)
    try simp only [Act.put, List.setIfInBounds_toArray, List.set_cons_zero, List.set_cons_succ]
    refine take_on (i := 42) (by (simp only [List.getElem?_toArray, List.getElem?_cons_succ, List.getElem?_cons_zero]) <;> rfl) (by kernel_rfl) (by kernel_rfl) (by kernel_rfl) (by intro _ _ _ _ h; exact h) (by rfl) (by assumption) ?_
    apply Exists.intro
    refine ⟨?_, ?_⟩
    · intro W0 hSw
      try dsimp only at hSw
      go_simp
      try (with_reducible rfl)
    try simp only [Act.put, List.setIfInBounds_toArray, List.set_cons_zero, List.set_cons_succ]
    refine take_on (i := 43) (by (simp only [List.getElem?_toArray, List.getElem?_cons_succ, List.getElem?_cons_zero]) <;> rfl) (by kernel_rfl) (by kernel_rfl) (by kernel_rfl) (by intro _ _ _ _ h; exact h) (by rfl) (by assumption) ?_
    apply Exists.intro
    refine ⟨?_, ?_⟩
    · intro W0 hSw
      try dsimp only at hSw
      go_simp
      try (with_reducible rfl)
    try simp only [Act.put, List.setIfInBounds_toArray, List.set_cons_zero, List.set_cons_succ]
    refine take_on (i := 44) (by (simp only [List.getElem?_toArray, List.getElem?_cons_succ, List.getElem?_cons_zero]) <;> rfl) (by kernel_rfl) (by kernel_rfl) (by kernel_rfl) (by intro _ _ _ _ h; exact h) (by rfl) (by assumption) ?_
    apply Exists.intro
    refine ⟨?_, ?_⟩
    · intro W0 hSw
      try dsimp only at hSw
      go_simp
      try (with_reducible rfl)
    try simp only [Act.put, List.setIfInBounds_toArray, List.set_cons_zero, List.set_cons_succ]
    refine take_on (i := 45) (by (simp only [List.getElem?_toArray, List.getElem?_cons_succ, List.getElem?_cons_zero]) <;> rfl) (by kernel_rfl) (by kernel_rfl) (by kernel_rfl) (by intro _ _ _ _ h; exact h) (by rfl) (by assumption) ?_
    apply Exists.intro
    refine ⟨?_, ?_⟩
    · intro W0 hSw
      try dsimp only at hSw
      go_simp
      try (with_reducible rfl)
    try simp only [Act.put, List.setIfInBounds_toArray, List.set_cons_zero, List.set_cons_succ]
    refine take_on (i := 46) (by (simp only [List.getElem?_toArray, List.getElem?_cons_succ, List.getElem?_cons_zero]) <;> rfl) (by kernel_rfl) (by kernel_rfl) (by kernel_rfl) (by intro _ _ _ _ h; exact h) (by rfl) (by assumption) ?_
    apply Exists.intro
    refine ⟨?_, ?_⟩
    · intro W0 hSw
      try dsimp only at hSw
      go_simp
      try (with_reducible rfl)
    try simp only [Act.put, List.setIfInBounds_toArray, List.set_cons_zero, List.set_cons_succ]
    refine take_on (i := 47) (by (simp only [List.getElem?_toArray, List.getElem?_cons_succ, List.getElem?_cons_zero]) <;> rfl) (by kernel_rfl) (by kernel_rfl) (by kernel_rfl) (by intro _ _ _ _ h; exact h) (by rfl) (by assumption) ?_
    apply Exists.intro
    refine ⟨?_, ?_⟩
    · intro W0 hSw
      try dsimp only at hSw
      go_simp
      try (with_reducible rfl)
    try simp only [Act.put, List.setIfInBounds_toArray, List.set_cons_zero, List.set_cons_succ]
    refine take_on (i := 48) (by (simp only [List.getElem?_toArray, List.getElem?_cons_succ, List.getElem?_cons_zero]) <;> rfl) (by kernel_rfl) (by kernel_rfl) (by kernel_rfl) (by intro _ _ _ _ h; exact h) (by rfl) (by assumption) ?_
    apply Exists.intro
    refine ⟨?_, ?_⟩
    · intro W0 hSw
      try dsimp only at hSw
      go_simp
      try (with_reducible rfl)
    try simp only [Act.put, List.setIfInBounds_toArray, List.set_cons_zero, List.set_cons_succ]
    refine take_on (i := 49) (by (simp only [List.getElem?_toArray, List.getElem?_cons_succ, List.getElem?_cons_zero]) <;> rfl) (by kernel_rfl) (by kernel_rfl) (by kernel_rfl) (by intro _ _ _ _ h; exact h) (by rfl) (by assumption) ?_
    apply Exists.intro
    refine ⟨?_, ?_⟩
    · intro W0 hSw
      try dsimp only at hSw
      go_simp
      try (with_reducible rfl)
    try simp only [Act.put, List.setIfInBounds_toArray, List.set_cons_zero, List.set_cons_succ]
    refine take_on (i := 50) (by (simp only [List.getElem?_toArray, List.getElem?_cons_succ, List.getElem?_cons_zero]) <;> rfl) (by kernel_rfl) (by kernel_rfl) (by kernel_rfl) (by intro _ _ _ _ h; exact h) (by rfl) (by assumption) ?_
    apply Exists.intro
    refine ⟨?_, ?_⟩
    · intro W0 hSw
      try dsimp only at hSw
      go_simp
      try (with_reducible rfl)
    try simp only [Act.put, List.setIfInBounds_toArray, List.set_cons_zero, List.set_cons_succ]
    refine take_on (i := 51) (by (simp only [List.getElem?_toArray, List.getElem?_cons_succ, List.getElem?_cons_zero]) <;> rfl) (by kernel_rfl) (by kernel_rfl) (by kernel_rfl) (by intro _ _ _ _ h; exact h) (by rfl) (by assumption) ?_
    apply Exists.intro
    refine ⟨?_, ?_⟩
    · intro W0 hSw
      try dsimp only at hSw
      go_simp
      try (with_reducible rfl)
    try simp only [Act.put, List.setIfInBounds_toArray, List.set_cons_zero, List.set_cons_succ]
    refine take_on (i := 52) (by (simp only [List.getElem?_toArray, List.getElem?_cons_succ, List.getElem?_cons_zero]) <;> rfl) (by kernel_rfl) (by kernel_rfl) (by kernel_rfl) (by intro _ _ _ _ h; exact h) (by rfl) (by assumption) ?_
    apply Exists.intro
    refine ⟨?_, ?_⟩
    · intro W0 hSw
      try dsimp only at hSw
      go_simp
      try (with_reducible rfl)
    try simp only [Act.put, List.setIfInBounds_toArray, List.set_cons_zero, List.set_cons_succ]
    refine take_on (i := 53) (by (simp only [List.getElem?_toArray, List.getElem?_cons_succ, List.getElem?_cons_zero]) <;> rfl) (by kernel_rfl) (by kernel_rfl) (by kernel_rfl) (by intro _ _ _ _ h; exact h) (by rfl) (by assumption) ?_
    apply Exists.intro
    refine ⟨?_, ?_⟩
    · intro W0 hSw
      try dsimp only at hSw
      go_simp
      try (with_reducible rfl)
    try simp only [Act.put, List.setIfInBounds_toArray, List.set_cons_zero, List.set_cons_succ]
    refine take_on (i := 54) (by (simp only [List.getElem?_toArray, List.getElem?_cons_succ, List.getElem?_cons_zero]) <;> rfl) (by kernel_rfl) (by kernel_rfl) (by kernel_rfl) (by intro _ _ _ _ h; exact h) (by rfl) (by assumption) ?_
    apply Exists.intro
    refine ⟨?_, ?_⟩
    · intro W0 hSw
      try dsimp only at hSw
      go_simp
      try (with_reducible rfl)
    try simp only [Act.put, List.setIfInBounds_toArray, List.set_cons_zero, List.set_cons_succ]
    refine take_on (i := 55) (by (simp only [List.getElem?_toArray, List.getElem?_cons_succ, List.getElem?_cons_zero]) <;> rfl) (by kernel_rfl) (by kernel_rfl) (by kernel_rfl) (by intro _ _ _ _ h; exact h) (by rfl) (by assumption) ?_
    apply Exists.intro
    refine ⟨?_, ?_⟩
    · intro W0 hSw
      try dsimp only at hSw
      go_simp
      try (with_reducible rfl)
    try simp only [Act.put, List.setIfInBounds_toArray, List.set_cons_zero, List.set_cons_succ]
    refine take_on (i := 56) (by (simp only [List.getElem?_toArray, List.getElem?_cons_succ, List.getElem?_cons_zero]) <;> rfl) (by kernel_rfl) (by kernel_rfl) (by kernel_rfl) (by intro _ _ _ _ h; exact h) (by rfl) (by assumption) ?_
    apply Exists.intro
    refine ⟨?_, ?_⟩
    · intro W0 hSw
      try dsimp only at hSw
      go_simp
      try (with_reducible rfl)
    try simp only [Act.put, List.setIfInBounds_toArray, List.set_cons_zero, List.set_cons_succ]
    refine take_on (i := 57) (by (simp only [List.getElem?_toArray, List.getElem?_cons_succ, List.getElem?_cons_zero]) <;> rfl) (by kernel_rfl) (by kernel_rfl) (by kernel_rfl) (by intro _ _ _ _ h; exact h) (by rfl) (by assumption) ?_
    apply Exists.intro
    refine ⟨?_, ?_⟩
    · intro W0 hSw
      try dsimp only at hSw
      go_simp
      try (with_reducible rfl)
    try simp only [Act.put, List.setIfInBounds_toArray, List.set_cons_zero, List.set_cons_succ]
    refine take_on (i := 58) (by (simp only [List.getElem?_toArray, List.getElem?_cons_succ, List.getElem?_cons_zero]) <;> rfl) (by kernel_rfl) (by kernel_rfl) (by kernel_rfl) (by intro _ _ _ _ h; exact h) (by rfl) (by assumption) ?_
    apply Exists.intro
    refine ⟨?_, ?_⟩
    · intro W0 hSw
      try dsimp only at hSw
      go_simp
      try (with_reducible rfl)
    try simp only [Act.put, List.setIfInBounds_toArray, List.set_cons_zero, List.set_cons_succ]
    refine take_on (i := 59) (by (simp only [List.getElem?_toArray, List.getElem?_cons_succ, List.getElem?_cons_zero]) <;> rfl) (by kernel_rfl) (by kernel_rfl) (by kernel_rfl) (by intro _ _ _ _ h; exact h) (by rfl) (by assumption) ?_
    apply Exists.intro
    refine ⟨?_, ?_⟩
    · intro W0 hSw
      try dsimp only at hSw
      go_simp
      try (with_reducible rfl)
    try simp only [Act.put, List.setIfInBounds_toArray, List.set_cons_zero, List.set_cons_succ]
    refine wpAnyH_done (by kernel_rfl) ?_ _
    clear y0 y1 y2 y3 y4 y5 y6 hw1 hw2 hw3 hw4 hw5 d1 d2 d3 d4 d5 d6 hHeld hkeep
    have y0 := E5.cell 4 rfl 0 rfl
    have y1 := E5.cell 4 rfl 1 rfl
    have y2 := E5.cell 4 rfl 2 rfl
    have y3 := E5.cell 4 rfl 3 rfl
    have y4 := E5.cell 4 rfl 4 rfl
    have y5 := E5.cell 4 rfl 5 rfl
    have y6 := E5.cell 4 rfl 6 rfl
    have yf := fun k => E5.free 4 rfl k
    by_cases hp : 0 < inc
    · obtain ⟨e1, e2, e3⟩ := s7 hp
      have hpp : 0 ≤ inc * cap := Int.mul_nonneg (by omega) p4
      have hpq : inc * cap ≤ inc * 1000000 := Int.mul_le_mul_of_nonneg_left (by omega) (by omega)
      have t1 : (tx == inc - us) = true := by simpa using e1
      have t2 : (tx != inc - us) = false := by simpa using e1
      have t3 : (nw != 0) = false := by simpa using e2
      have t4 : decide (inc * cap < us * 1000000) = false := by simp; omega
      have hwic : IntKind.i64.wrap (inc * cap) = inc * cap := by rw [IntKind.wrap_i64]; omega
      have hwus : IntKind.i64.wrap (us * 1000000) = us * 1000000 := by rw [IntKind.wrap_i64]; omega
      have hws : IntKind.i64.wrap (inc - us) = inc - us := by rw [IntKind.wrap_i64]; omega
      clear s7 s8 e1 e2
      go_upto_region 13 with fail
      have hwt : IntKind.i64.wrap (tx * r) = tx * r := by rw [IntKind.wrap_i64]; omega
      have hwo : IntKind.i64.wrap (2 * (tx * r - ov * 1000000)) = 2 * (tx * r - ov * 1000000) := by rw [IntKind.wrap_i64]; omega
      have dz1 : decide (-1000000 ≤ 2 * (tx * r - ov * 1000000)) = true := by simpa using x5
      have dz2 : decide (2 * (tx * r - ov * 1000000) ≤ 1000000) = true := by simpa using x6
      go_wp2_with fail
      refine (wakes15 _).mono ?_
      rintro e w6 ⟨rfl, B6⟩
      go_wp2
      go_ret
      exact ⟨rfl, (E5.below B6).low⟩
    · obtain ⟨e1, e2, e3⟩ := s8 (by omega)
      have e4 : us = 0 := by rw [← R4.out, e3]; rfl
      have e5 : vn = 0 := by rw [← R9.out, e3]; rfl
      have e6 : ov = 0 := by rw [← R7.out, e1]; simp [ofVal, partOf]
      clear s7 s8 R2 R3 R4 R5 R6 R7 R8 R9
      subst e1 e4 e5 e6
      have t1 : (nw == -inc) = true := by simpa using e2
      have t2 : (nw != -inc) = false := by simpa using e2
      clear e2 e3
      go_upto_region 13 with fail
      go_wp2_with fail
      refine (wakes15 _).mono ?_
      rintro e w6 ⟨rfl, B6⟩
      go_wp2
      go_ret
      exact ⟨rfl, (E5.below B6).low⟩
end Go.Proofs.Ytpigoegjoagbnaa
end
namespace Go.Proofs.Ytpigoegjoagbnaa.currentLaws
open Go.ChangeShapes Go.WideShapes Go.ChangeAt Go.RowKit Go.Sl
set_option linter.unusedVariables false
set_option maxRecDepth 100000
set_option maxHeartbeats 2000000
theorem lifted (os : Os) (started : os.Started) (H : Type) (enc : TypeId × Value → H) :
    ReturnsInHanded {} Try.checked os 11 .any (Rows.currentLawsSpec.pre6 enc Try.prog Try.f11 Rows.currentLawsRow.domain false) (Rows.currentLawsSpec.post enc Try.prog Try.f11 false true false false) := by
  refine returnsInHanded_of_change_sized (C := Try.checked) Lift.own started (by kernel_rfl) Try.func11
    (ChangeSpec.witness6 (enc := enc) (C := Try.checked) false ⟨#[], #[.slice none 0 0, .int .i64 0, .int .i64 0, .int .i64 0, .int .i64 0, .int .i64 0, .int .i64 0, .int .i64 0], []⟩ 8 (by kernel_rfl) (by kernel_rfl) (by kernel_rfl) (by kernel_rfl)) ?_
  intro W base args ds gs before hval0 hW hcnd hsz0 _
  have hval : ∀ (j : Nat) t v, Try.f11.params[j]? = some t → args[j]? = some v → Value.okWide Try.prog W .any base t v := hval0
  have hW' := hW
  obtain ⟨p, q, hA0, hV, rfl, hfz, hnd⟩ := hW
  have hA : DataW.TrodAll enc Try.prog W 0 (fun _ => true) true Try.f11.params.toList args.toList ds p := hA0
  rw [Try.params11] at hA hval
  obtain ⟨v0, vs0, d0, ds0, p0, q0, hargs, rfl, rfl, h0, r0⟩ := trodAll_cons hA
  obtain ⟨v1, vs1, d1, ds1, p1, q1, rfl, rfl, rfl, h1, r1⟩ := trodAll_cons r0
  obtain ⟨v2, vs2, d2, ds2, p2, q2, rfl, rfl, rfl, h2, r2⟩ := trodAll_cons r1
  obtain ⟨v3, vs3, d3, ds3, p3, q3, rfl, rfl, rfl, h3, r3⟩ := trodAll_cons r2
  obtain ⟨v4, vs4, d4, ds4, p4, q4, rfl, rfl, rfl, h4, r4⟩ := trodAll_cons r3
  obtain ⟨v5, vs5, d5, ds5, p5, q5, rfl, rfl, rfl, h5, r5⟩ := trodAll_cons r4
  obtain ⟨v6, vs6, d6, ds6, p6, q6, rfl, rfl, rfl, h6, r6⟩ := trodAll_cons r5
  obtain ⟨v7, vs7, d7, ds7, p7, q7, rfl, rfl, rfl, h7, r7⟩ := trodAll_cons r6
  obtain ⟨rfl, rfl, rfl⟩ := trodAll_nil r7
  obtain rfl : args = #[v0, v1, v2, v3, v4, v5, v6, v7] := by cases args; simp_all
  obtain ⟨rfl, rfl⟩ := trodVars_none hV
  have k0 := h0
  have lt0 : ∀ x ∈ p0, x.block < W.heap.size := by obtain ⟨m, hm⟩ := k0; exact DataW.trod_lt m _ _ _ hm
  obtain ⟨A0, c0, z0, rfl, s0, w0⟩ := Lift.ints_of (hval 0 26 v0 rfl rfl) h0
  obtain ⟨a1, rfl, rfl, rfl, x1⟩ := open_int Try.underlying3 (hval 1 3 v1 rfl rfl) h1
  have w1 := I64.of_wf x1
  obtain ⟨a2, rfl, rfl, rfl, x2⟩ := open_int Try.underlying3 (hval 2 3 v2 rfl rfl) h2
  have w2 := I64.of_wf x2
  obtain ⟨a3, rfl, rfl, rfl, x3⟩ := open_int Try.underlying3 (hval 3 3 v3 rfl rfl) h3
  have w3 := I64.of_wf x3
  obtain ⟨a4, rfl, rfl, rfl, x4⟩ := open_int Try.underlying3 (hval 4 3 v4 rfl rfl) h4
  have w4 := I64.of_wf x4
  obtain ⟨a5, rfl, rfl, rfl, x5⟩ := open_int Try.underlying3 (hval 5 3 v5 rfl rfl) h5
  have w5 := I64.of_wf x5
  obtain ⟨a6, rfl, rfl, rfl, x6⟩ := open_int Try.underlying3 (hval 6 3 v6 rfl rfl) h6
  have w6 := I64.of_wf x6
  obtain ⟨a7, rfl, rfl, rfl, x7⟩ := open_int Try.underlying3 (hval 7 3 v7 rfl rfl) h7
  have w7 := I64.of_wf x7
  clear hA0 hval0 hsz0
  refine (curLaws_calls A0 c0 z0 (Hp.all W) a1 a2 a3 a4 a5 a6 a7 W (Hp.all_sub W) s0 w0).mono fun e W' ⟨he, bel⟩ => ?_
  subst he
  exact ⟨_, rfl, _, _, _, [], _, [], hW', trodAll_mk1 (shut_bool Try.underlying4 _), (trodAll_cons_mk (Below.trod Lift.laidOut (by kernel_rfl) (of_decide_eq_true (by kernel_rfl)) k0 bel lt0) (trodAll_cons_mk (shut_int Try.underlying3 x1) (trodAll_cons_mk (shut_int Try.underlying3 x2) (trodAll_cons_mk (shut_int Try.underlying3 x3) (trodAll_cons_mk (shut_int Try.underlying3 x4) (trodAll_cons_mk (shut_int Try.underlying3 x5) (trodAll_cons_mk (shut_int Try.underlying3 x6) (trodAll_cons_mk (shut_int Try.underlying3 x7) trodAll_mk0)))))))), rfl, bel.frame _, fun h => by cases h⟩
theorem over : Rows.currentLawsRow.holds Try.pinned (OpenSpec.ofChange Rows.currentLawsSpec) :=
  OpenClaim.holds_of_wide 11 Try.f11 rfl rfl rfl rfl rfl rfl rfl ⟨rfl, rfl, rfl, rfl, rfl⟩ rfl rfl rfl rfl rfl (by kernel_rfl) Try.func11 (by kernel_rfl)
    (of_decide_eq_true (by kernel_rfl)) (by unfold Func.isWrapper; first | (rw [if_pos (by decide +kernel)]; kernel_rfl) | (rw [if_neg (by decide +kernel)]; exact ⟨rfl, rfl⟩))
    (fun os started H enc _ => lifted os started H enc)
end Go.Proofs.Ytpigoegjoagbnaa.currentLaws
namespace Go.Proofs.Ytpigoegjoagbnaa
theorem currentLaws_holds : Rows.CurrentLawsSaid := currentLaws.over
#print axioms currentLaws_holds
end Go.Proofs.Ytpigoegjoagbnaa
