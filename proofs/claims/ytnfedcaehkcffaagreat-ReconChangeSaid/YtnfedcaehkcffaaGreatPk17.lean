/- Walks and plain facts that the laws of this seat share, part 17: contracts of functions, each said at its theorem. -/
import Derived.Test.YtnfedcaehkcffaaGreatPk16
set_option linter.all false
section
/- The walk of current.Tax: a loss. -/
namespace Go.Proofs.YtnfedcaehkcffaaGreat
open Go.RowKit Go.Sl
set_option maxHeartbeats 1000000
set_option maxRecDepth 100000
theorem curTax_loss (h : Hp) (b : Nat) (l : List STri) (bk pm mv most life year r : Int) (w : World) (hs : h.sub w) (S : Vnt h b l) (ha : curArg most life year r = true) (hi : incOk bk pm mv = true) (inc : Int) (h0 : incV bk pm mv = inc) (hneg : inc < 0) (hE : vAddE (vExp l year) year (year + life) (-inc) = 0) :
    Calls Tryz.prog 55 #[.pointer (some ⟨b, 0, none⟩), .int .i64 bk, .int .i64 pm, .int .i64 mv, .int .i64 most, .int .i64 life, .int .i64 year, .int .i64 r] w (CurOk l inc most life year r w) := by
  have HI := Lib.hid hi
  have H0 := Lib.hid h0
  clear hi h0
  have hV : curVec l inc most year = [] := by unfold curVec; rw [if_neg (by omega)]
  have hib := incV_bd bk pm mv
  rw [H0.out] at hib
  have tn0 : decide (0 < inc) = false := by simp; omega
  have tn1 : decide (inc < 0) = true := by simpa using hneg
  have hNw : curNew inc = -inc := by unfold curNew; rw [if_pos hneg]
  have ht : curTaxable l inc most year = 0 := by unfold curTaxable; rw [hV, hNw]; simp; omega
  have hwn : IntKind.i64.wrap (-inc) = -inc := by rw [IntKind.wrap_i64]; omega
  have hwt : IntKind.i64.wrap (inc + -inc) = 0 := by rw [IntKind.wrap_i64]; omega
  have HP : ∀ (W : World) (h' : Hp) (b' : Nat), Vnt h' b' (vAdd (vExp l year) year (year + life) (-inc)) → Env w W [h'] → CurOk l inc most life year r w (.returned (.tuple #[.agg #[.int .i64 inc, .int .i64 (vGone l year), .int .i64 0, .int .i64 (-inc), .int .i64 0, .int .i64 (ofVal 0 r), .slice none 0 0], .pointer (some ⟨b', 0, none⟩), .int .i64 0])) W := fun W h' b' S' E' => by
    refine ⟨h', b', Hp.none, none, 0, ?_, ?_, ?_, E'.new (Upd.of_below (Below.refl _ _))⟩
    · rw [hV, ht, hNw]; rfl
    · unfold curNext; rw [if_neg (by omega), if_pos hneg]; exact S'
    · rw [hV]; exact Ow.none _ _
  have HE := Lib.hid hE
  clear hV ht hNw hneg hE
  have E0 := (Env.start w).alloc (.cells #[.int .i64 0, .int .i64 0, .int .i64 0, .int .i64 0, .int .i64 0, .int .i64 0, .slice none 0 0] 39)
  simp at E0
  have R1 := fun W : World => rateRight_calls most W
  have R2 := fun W : World => rateRight_calls r W
  have R3 := fun W : World => curRight_calls life W
  have R4 := fun W : World => curRight_calls year W
  have hq : rightRate most = true ∧ rightRate r = true ∧ decide (0 ≤ life ∧ life ≤ 99) = true ∧ decide (0 ≤ year ∧ year ≤ 99) = true := by unfold curArg at ha; simpa using ha
  rw [hq.1] at R1
  rw [hq.2.1] at R2
  rw [hq.2.2.1] at R3
  rw [hq.2.2.2] at R4
  have hlb : 0 ≤ life ∧ life ≤ 99 := by simpa using hq.2.2.1
  have hyb : 0 ≤ year ∧ year ≤ 99 := by simpa using hq.2.2.2
  clear hq
  have IC := fun W : World => income_calls bk pm mv W
  go_enter Tryz.func55, Tryz.ntmps55
  go_wp2_with fail
  refine (R1 _).mono ?_
  rintro e w' ⟨rfl, rfl⟩
  go_wp2_with fail
  refine (R2 _).mono ?_
  rintro e w' ⟨rfl, rfl⟩
  go_wp2_with fail
  refine (R3 _).mono ?_
  rintro e w' ⟨rfl, rfl⟩
  go_wp2_with fail
  refine (R4 _).mono ?_
  rintro e w' ⟨rfl, rfl⟩
  go_wp2_with fail
  refine (IC _).mono ?_
  rw [HI.out, H0.out]
  rintro e w2 ⟨rfl, B2⟩
  have E2 := E0.below B2
  go_wp2_with fail
  refine (vintClone_calls b l h w2 (hs.of_below E2.low) S.pt (by have := S.good.len; omega)).mono ?_
  rintro e w3 ⟨h3, b3, rfl, p3, u3⟩
  have E3 := E2.new u3
  simp at E3
  have S3 : Vnt h3 b3 l := ⟨p3, S.good⟩
  go_wp2_with fail
  refine (Vnt.exp S3 E3 1 rfl year ⟨rfl, rfl⟩).mono ?_
  rintro e w4 ⟨h4, rfl, S4, E4⟩
  simp at E4
  have OC := fun W : World => of_calls 0 r W
  generalize vGone l year = vg at *
  generalize ofVal 0 r = ov at *
  generalize ofOk 0 r = ob at *
  go_upto_region 8 with fail
  replace E4 := E4.alloc (.cells #[.int .i64 inc, .int .i64 vg, .int .i64 0, .int .i64 0, .int .i64 0, .int .i64 0, .slice none 0 0] 39)
  simp at E4
  obtain ⟨W, hW⟩ : ∃ W : World, W = w4.alloc (.cells #[.int .i64 inc, .int .i64 vg, .int .i64 0, .int .i64 0, .int .i64 0, .int .i64 0, .slice none 0 0] 39) := ⟨_, rfl⟩
  rw [← hW] at E4
  rw [← hW]
  clear hW
  have y0 := E4.cell 2 rfl 0 rfl
  have y1 := E4.cell 2 rfl 1 rfl
  have y2 := E4.cell 2 rfl 2 rfl
  have y3 := E4.cell 2 rfl 3 rfl
  have y4 := E4.cell 2 rfl 4 rfl
  have y5 := E4.cell 2 rfl 5 rfl
  have y6 := E4.cell 2 rfl 6 rfl
  generalize w4.heap.size = bB at *
  have yf := fun k => E4.free 2 rfl k
  have z := fun k v (h : [Value.int .i64 0, .int .i64 0, .int .i64 0, .int .i64 0, .int .i64 0, .int .i64 0, .slice none 0 0][k]? = some v) => E4.cell 0 rfl k h
  have z0 := z 0 _ rfl
  have z1 := z 1 _ rfl
  have z2 := z 2 _ rfl
  have z3 := z 3 _ rfl
  have z4 := z 4 _ rfl
  have z5 := z 5 _ rfl
  have z6 := z 6 _ rfl
  have zf := fun k => E4.free 0 rfl k
  clear z
  have hwy : IntKind.i64.wrap (year + life) = year + life := by rw [IntKind.wrap_i64]; omega
  have A0 := E4.cellset 2 rfl 3 (.int .i64 (-inc))
  simp only [List.set_cons_zero, List.set_cons_succ] at A0
  go_wp2_with fail
  refine (Vnt.add S4 A0 1 rfl year (year + life) (-inc) ⟨HE.out, rfl⟩).mono ?_
  rintro e w5 ⟨h5, rfl, S5, E5⟩
  simp only [List.set_cons_zero, List.set_cons_succ] at E5
  clear z0 z1 z2 z3 z4 z5 z6 zf y0 y1 y2 y3 y4 y5 y6 yf A0 E4
  have y0 := E5.cell 2 rfl 0 rfl
  have y1 := E5.cell 2 rfl 1 rfl
  have y2 := E5.cell 2 rfl 2 rfl
  have y3 := E5.cell 2 rfl 3 rfl
  have y4 := E5.cell 2 rfl 4 rfl
  have y5 := E5.cell 2 rfl 5 rfl
  have y6 := E5.cell 2 rfl 6 rfl
  have yf := fun k => E5.free 2 rfl k
  go_wp2_with fail
  refine (OC _).mono ?_
  rintro e w' ⟨rfl, rfl⟩
  go_upto_region 19 with fail
  have F0 := E5.cellset 2 rfl 4 (.int .i64 0)
  simp only [List.set_cons_zero, List.set_cons_succ] at F0
  have F1 := F0.cellset 2 rfl 5 (.int .i64 ov)
  simp only [List.set_cons_zero, List.set_cons_succ] at F1
  obtain ⟨V, hV9⟩ : ∃ V : World, V = (w5.setCell ⟨bB, 4, none⟩ (.int .i64 0)).setCell ⟨bB, 5, none⟩ (.int .i64 ov) := ⟨_, rfl⟩
  rw [← hV9] at F1
  rw [← hV9]
  clear hV9 F0 E5 y0 y1 y2 y3 y4 y5 y6 yf
  have y0 := F1.cell 2 rfl 0 rfl
  have y1 := F1.cell 2 rfl 1 rfl
  have y2 := F1.cell 2 rfl 2 rfl
  have y3 := F1.cell 2 rfl 3 rfl
  have y4 := F1.cell 2 rfl 4 rfl
  have y5 := F1.cell 2 rfl 5 rfl
  have y6 := F1.cell 2 rfl 6 rfl
  have z0 := F1.cell 0 rfl 0 rfl
  have z1 := F1.cell 0 rfl 1 rfl
  have z2 := F1.cell 0 rfl 2 rfl
  have z3 := F1.cell 0 rfl 3 rfl
  have z4 := F1.cell 0 rfl 4 rfl
  have z5 := F1.cell 0 rfl 5 rfl
  have z6 := F1.cell 0 rfl 6 rfl
  have zf := fun k => F1.free 0 rfl k
  trace "R19"
  go_wp2
  have G0 := F1.cellset 0 rfl 0 (.int .i64 inc)
  simp only [List.set_cons_zero] at G0
  have G1 := G0.cellset 0 rfl 1 (.int .i64 vg)
  simp only [List.set_cons_zero, List.set_cons_succ] at G1
  have G2 := G1.cellset 0 rfl 2 (.int .i64 0)
  simp only [List.set_cons_zero, List.set_cons_succ] at G2
  have G3 := G2.cellset 0 rfl 3 (.int .i64 (-inc))
  simp only [List.set_cons_zero, List.set_cons_succ] at G3
  have G4 := G3.cellset 0 rfl 4 (.int .i64 0)
  simp only [List.set_cons_zero, List.set_cons_succ] at G4
  have G5 := G4.cellset 0 rfl 5 (.int .i64 ov)
  simp only [List.set_cons_zero, List.set_cons_succ] at G5
  have G6 := G5.cellset 0 rfl 6 (.slice none 0 0)
  simp only [List.set_cons_zero, List.set_cons_succ] at G6
  have EF := (G6.drop 2).drop 0
  simp at EF
  exact bodyPost_ret (v := .tuple #[.agg #[.int .i64 inc, .int .i64 vg, .int .i64 0, .int .i64 (-inc), .int .i64 0, .int .i64 ov, .slice none 0 0], .pointer (some ⟨b3, 0, none⟩), .int .i64 0]) (by simp [results, Tryz.results55, go_sem, z0, z1, z2, z3, z4, z5, z6]) rfl (HP _ h5 b3 S5 EF)
end Go.Proofs.YtnfedcaehkcffaaGreat
end
section
/- The walk of current.Tax: a profit. -/
namespace Go.Proofs.YtnfedcaehkcffaaGreat
open Go.RowKit Go.Sl
set_option maxHeartbeats 1000000
set_option maxRecDepth 100000
theorem curTax_profit (h : Hp) (b : Nat) (l : List STri) (bk pm mv most life year r : Int) (w : World) (hs : h.sub w) (S : Vnt h b l) (ha : curArg most life year r = true) (hi : incOk bk pm mv = true) (inc : Int) (h0 : incV bk pm mv = inc) (hpos : 0 < inc) :
    Calls Tryz.prog 55 #[.pointer (some ⟨b, 0, none⟩), .int .i64 bk, .int .i64 pm, .int .i64 mv, .int .i64 most, .int .i64 life, .int .i64 year, .int .i64 r] w (CurOk l inc most life year r w) := by
  have HI := Lib.hid hi
  have H0 := Lib.hid h0
  have hib := incV_bd bk pm mv
  rw [h0] at hib
  clear hi h0
  have gE := S.good.exp year
  have gEl := gE.len
  obtain ⟨hvl, hvt⟩ := curVec_take (most := most) (year := year) S.good hpos
  obtain ⟨us0, us1, _⟩ := curVec_bd S.good inc most year
  have us1 := us1 hpos
  have HVd : Hid (curVec l inc most year = vecGo year (vExp l year) (max 0 (roomV inc most))) := by unfold Hid curVec; rw [if_pos hpos]
  have hvb : ∀ u ∈ curVec l inc most year, 0 ≤ u ∧ u ≤ 100000000000 := fun u hu => by
    obtain ⟨i, hi⟩ := List.mem_iff_getElem?.1 hu
    have hil : i < (vExp l year).length := by rw [← hvl]; exact (List.getElem?_eq_some_iff.1 hi).1
    obtain ⟨x, hx⟩ := some_of_lt hil
    have h1 := vTake_bad hvt hx.out hi
    have h2 := le_sumC gE.lo (List.mem_of_getElem? hx.out)
    have h3 := gE.mon
    omega
  have hpre : ∀ j, j ≤ (curVec l inc most year).length → -1000000000000000 ≤ ((curVec l inc most year).take j).sum ∧ ((curVec l inc most year).take j).sum ≤ 1000000000000000 := fun j hj => by
    have h1 := sum_money ((curVec l inc most year).take j) fun z hz => by
      have := hvb z (List.mem_of_mem_take hz); simp [money]; omega
    have h2 : ((curVec l inc most year).take j).length ≤ 12 := by rw [List.length_take]; omega
    omega
  have tn0 : decide (0 < inc) = true := by simpa using hpos
  have hNw : curNew inc = 0 := by unfold curNew; rw [if_neg (by omega)]
  have ht : curTaxable l inc most year = inc - (curVec l inc most year).sum := by unfold curTaxable; rw [hNw]; omega
  have HP : ∀ (W : World) (h' hv : Hp) (b' cv : Nat) (V : Option Addr), Vnt h' b' (vTake (vExp l year) (curVec l inc most year)) → Ow kInt hv V cv (curVec l inc most year) → Env w W [h', hv] → CurOk l inc most life year r w (.returned (.tuple #[.agg #[.int .i64 inc, .int .i64 (vGone l year), .int .i64 (curVec l inc most year).sum, .int .i64 0, .int .i64 (inc - (curVec l inc most year).sum), .int .i64 (ofVal (inc - (curVec l inc most year).sum) r), .slice V (curVec l inc most year).length cv], .pointer (some ⟨b', 0, none⟩), .int .i64 0])) W := fun W h' hv b' cv V S' o' E' => by
    refine ⟨h', b', hv, V, cv, ?_, ?_, o', E'⟩
    · rw [ht, hNw]
    · unfold curNext; rw [if_pos hpos]; exact S'
  have RM := fun W : World => room_calls inc most W
  have hrb : -1000000000000000 ≤ roomV inc most ∧ roomV inc most ≤ 1000000000000000 := by
    unfold roomV; split
    · omega
    · have := floorV_bd (n := inc) (r := most); omega
  have VC := fun (W : World) (C : Option Addr) (n : Nat) (k : Hp) (ks : k.sub W) (o : Ow kTri k C n (vExp l year)) => vector_calls C n (vExp l year) year (roomV inc most) k W ks o.sl (by omega) (fun x hx => by have := gE.lo x hx; omega) hrb.2 hrb.1
  rw [← HVd.out] at VC
  rw [← hvl] at VC
  have hvl' := Lib.hid hvl
  have HVT := Lib.hid hvt
  clear hvl hvt ht hNw HVd hrb
  have E0 := (Env.start w).alloc (.cells #[.int .i64 0, .int .i64 0, .int .i64 0, .int .i64 0, .int .i64 0, .int .i64 0, .slice none 0 0] 39)
  simp at E0
  have R1 := fun W : World => rateRight_calls most W
  have R2 := fun W : World => rateRight_calls r W
  have R3 := fun W : World => curRight_calls life W
  have R4 := fun W : World => curRight_calls year W
  have hq : rightRate most = true ∧ rightRate r = true ∧ decide (0 ≤ life ∧ life ≤ 99) = true ∧ decide (0 ≤ year ∧ year ≤ 99) = true := by unfold curArg at ha; simpa using ha
  rw [hq.1] at R1
  rw [hq.2.1] at R2
  rw [hq.2.2.1] at R3
  rw [hq.2.2.2] at R4
  have hlb : 0 ≤ life ∧ life ≤ 99 := by simpa using hq.2.2.1
  have hyb : 0 ≤ year ∧ year ≤ 99 := by simpa using hq.2.2.2
  clear hq
  have IC := fun W : World => income_calls bk pm mv W
  go_enter Tryz.func55, Tryz.ntmps55
  go_wp2_with fail
  refine (R1 _).mono ?_
  rintro e w' ⟨rfl, rfl⟩
  go_wp2_with fail
  refine (R2 _).mono ?_
  rintro e w' ⟨rfl, rfl⟩
  go_wp2_with fail
  refine (R3 _).mono ?_
  rintro e w' ⟨rfl, rfl⟩
  go_wp2_with fail
  refine (R4 _).mono ?_
  rintro e w' ⟨rfl, rfl⟩
  go_wp2_with fail
  refine (IC _).mono ?_
  rw [HI.out, H0.out]
  rintro e w2 ⟨rfl, B2⟩
  have E2 := E0.below B2
  go_wp2_with fail
  refine (vintClone_calls b l h w2 (hs.of_below E2.low) S.pt (by have := S.good.len; omega)).mono ?_
  rintro e w3 ⟨h3, b3, rfl, p3, u3⟩
  have E3 := E2.new u3
  simp at E3
  have S3 : Vnt h3 b3 l := ⟨p3, S.good⟩
  go_wp2_with fail
  refine (Vnt.exp S3 E3 1 rfl year ⟨rfl, rfl⟩).mono ?_
  rintro e w4 ⟨h4, rfl, S4, E4⟩
  simp at E4
  generalize vGone l year = vg at *
  generalize curVec l inc most year = cvec at *
  generalize vExp l year = ex at *
  generalize roomV inc most = rm at *
  obtain ⟨us, hus⟩ : ∃ us, cvec.sum = us := ⟨_, rfl⟩
  rw [hus] at us0 us1 HP
  have HUS := Lib.hid hus
  clear hus
  have OC := fun W : World => of_calls (inc - us) r W
  generalize ofVal (inc - us) r = ov at *
  generalize ofOk (inc - us) r = ob at *
  go_upto_region 8 with fail
  replace E4 := E4.alloc (.cells #[.int .i64 inc, .int .i64 vg, .int .i64 0, .int .i64 0, .int .i64 0, .int .i64 0, .slice none 0 0] 39)
  simp at E4
  obtain ⟨W, hW⟩ : ∃ W : World, W = w4.alloc (.cells #[.int .i64 inc, .int .i64 vg, .int .i64 0, .int .i64 0, .int .i64 0, .int .i64 0, .slice none 0 0] 39) := ⟨_, rfl⟩
  rw [← hW] at E4
  rw [← hW]
  clear hW
  have y0 := E4.cell 2 rfl 0 rfl
  have y1 := E4.cell 2 rfl 1 rfl
  have y2 := E4.cell 2 rfl 2 rfl
  have y3 := E4.cell 2 rfl 3 rfl
  have y4 := E4.cell 2 rfl 4 rfl
  have y5 := E4.cell 2 rfl 5 rfl
  have y6 := E4.cell 2 rfl 6 rfl
  generalize w4.heap.size = bB at *
  go_wp2_with fail
  refine (Vnt.rows S4 E4 1 rfl cvec.length hvl'.out.symm).mono ?_
  rintro e w5 ⟨C5, n5, h5, rfl, o5, E5⟩
  simp at E5
  go_wp2_with fail
  refine (RM _).mono ?_
  rintro e w' ⟨rfl, rfl⟩
  go_wp2_with fail
  refine (VC _ _ _ h5 (E5.sub 3 rfl) o5).mono ?_
  rintro e w6 ⟨V, cv, hv, rfl, o6, u6⟩
  have E6 := E5.new u6
  simp at E6
  clear y0 y1 y2 y3 y4 y5 y6 E4 E5
  have y6 := E6.cell 2 rfl 6 rfl
  have yf := fun k => E6.free 2 rfl k
  have A6 := E6.cellset 2 rfl 6 (.slice V cvec.length cv)
  simp only [List.set_cons_zero, List.set_cons_succ] at A6
  go_wp2_with fail
  refine (used_calls V cv cvec hv _ (A6.sub 4 rfl) o6.sl hpre).mono ?_
  rw [HUS.out]
  rintro e w7 ⟨rfl, B7⟩
  have E7 := A6.below B7
  clear y6 yf A6 E6
  have y2 := E7.cell 2 rfl 2 rfl
  have y6 := E7.cell 2 rfl 6 rfl
  have yf := fun k => E7.free 2 rfl k
  have A7 := E7.cellset 2 rfl 2 (.int .i64 us)
  simp only [List.set_cons_zero, List.set_cons_succ] at A7
  go_wp2_with fail
  refine (Vnt.take S4 A7 1 rfl (A7.sub 4 rfl) o6.sl (fun u hu => by have := hvb u hu; exact ⟨by omega, by omega⟩) cvec.length rfl ⟨HVT.out, rfl⟩).mono ?_
  rintro e w8 ⟨h8, rfl, S8, E8⟩
  simp only [List.set_cons_zero, List.set_cons_succ] at E8
  clear y2 y6 yf A7 E7
  have y0 := E8.cell 2 rfl 0 rfl
  have y1 := E8.cell 2 rfl 1 rfl
  have y2 := E8.cell 2 rfl 2 rfl
  have y3 := E8.cell 2 rfl 3 rfl
  have y4 := E8.cell 2 rfl 4 rfl
  have y5 := E8.cell 2 rfl 5 rfl
  have y6 := E8.cell 2 rfl 6 rfl
  have yf := fun k => E8.free 2 rfl k
  have hws : IntKind.i64.wrap (inc - us) = inc - us := by rw [IntKind.wrap_i64]; omega
  have tn1 : decide (inc < 0) = false := by simp; omega
  go_wp2_with fail
  refine (OC _).mono ?_
  rintro e w' ⟨rfl, rfl⟩
  go_upto_region 19 with fail
  have F0 := E8.cellset 2 rfl 4 (.int .i64 (inc - us))
  simp only [List.set_cons_zero, List.set_cons_succ] at F0
  have F1 := F0.cellset 2 rfl 5 (.int .i64 ov)
  simp only [List.set_cons_zero, List.set_cons_succ] at F1
  obtain ⟨U, hU9⟩ : ∃ U : World, U = (w8.setCell ⟨bB, 4, none⟩ (.int .i64 (inc - us))).setCell ⟨bB, 5, none⟩ (.int .i64 ov) := ⟨_, rfl⟩
  rw [← hU9] at F1
  rw [← hU9]
  clear hU9 F0 E8 y0 y1 y2 y3 y4 y5 y6 yf
  have y0 := F1.cell 2 rfl 0 rfl
  have y1 := F1.cell 2 rfl 1 rfl
  have y2 := F1.cell 2 rfl 2 rfl
  have y3 := F1.cell 2 rfl 3 rfl
  have y4 := F1.cell 2 rfl 4 rfl
  have y5 := F1.cell 2 rfl 5 rfl
  have y6 := F1.cell 2 rfl 6 rfl
  have z0 := F1.cell 0 rfl 0 rfl
  have z1 := F1.cell 0 rfl 1 rfl
  have z2 := F1.cell 0 rfl 2 rfl
  have z3 := F1.cell 0 rfl 3 rfl
  have z4 := F1.cell 0 rfl 4 rfl
  have z5 := F1.cell 0 rfl 5 rfl
  have z6 := F1.cell 0 rfl 6 rfl
  have zf := fun k => F1.free 0 rfl k
  go_wp2
  have G0 := F1.cellset 0 rfl 0 (.int .i64 inc)
  simp only [List.set_cons_zero] at G0
  have G1 := G0.cellset 0 rfl 1 (.int .i64 vg)
  simp only [List.set_cons_zero, List.set_cons_succ] at G1
  have G2 := G1.cellset 0 rfl 2 (.int .i64 us)
  simp only [List.set_cons_zero, List.set_cons_succ] at G2
  have G3 := G2.cellset 0 rfl 3 (.int .i64 0)
  simp only [List.set_cons_zero, List.set_cons_succ] at G3
  have G4 := G3.cellset 0 rfl 4 (.int .i64 (inc - us))
  simp only [List.set_cons_zero, List.set_cons_succ] at G4
  have G5 := G4.cellset 0 rfl 5 (.int .i64 ov)
  simp only [List.set_cons_zero, List.set_cons_succ] at G5
  have G6 := G5.cellset 0 rfl 6 (.slice V cvec.length cv)
  simp only [List.set_cons_zero, List.set_cons_succ] at G6
  have EF := ((G6.drop 3).drop 2).drop 0
  simp at EF
  exact bodyPost_ret (v := .tuple #[.agg #[.int .i64 inc, .int .i64 vg, .int .i64 us, .int .i64 0, .int .i64 (inc - us), .int .i64 ov, .slice V cvec.length cv], .pointer (some ⟨b3, 0, none⟩), .int .i64 0]) (by simp [results, Tryz.results55, go_sem, z0, z1, z2, z3, z4, z5, z6]) rfl (HP _ h8 hv b3 cv V S8 o6 EF)
end Go.Proofs.YtnfedcaehkcffaaGreat
end
section
/- The walk of current.Tax: a loss that may not be. -/
namespace Go.Proofs.YtnfedcaehkcffaaGreat
open Go.RowKit Go.Sl
set_option maxHeartbeats 1000000
set_option maxRecDepth 100000
theorem curTax_lossErr (h : Hp) (b : Nat) (l : List STri) (bk pm mv most life year r : Int) (w : World) (hs : h.sub w) (S : Vnt h b l) (ha : curArg most life year r = true) (hi : incOk bk pm mv = true) (inc : Int) (h0 : incV bk pm mv = inc) (hneg : inc < 0) (q : Int) (hE : vAddE (vExp l year) year (year + life) (-inc) = q) (hq0 : q ≠ 0) :
    Calls Tryz.prog 55 #[.pointer (some ⟨b, 0, none⟩), .int .i64 bk, .int .i64 pm, .int .i64 mv, .int .i64 most, .int .i64 life, .int .i64 year, .int .i64 r] w fun e w' => e = .returned (.tuple #[noRes, .pointer none, .int .i64 q]) ∧ Below w.heap.size w w' := by
  have HI := Lib.hid hi
  have H0 := Lib.hid h0
  clear hi h0
  have HN : Hid (noRes = .agg #[.int .i64 0, .int .i64 0, .int .i64 0, .int .i64 0, .int .i64 0, .int .i64 0, .slice none 0 0]) := rfl
  have hib := incV_bd bk pm mv
  rw [H0.out] at hib
  have tn0 : decide (0 < inc) = false := by simp; omega
  have tn1 : decide (inc < 0) = true := by simpa using hneg
  have tq : (q != 0) = true := by simpa using hq0
  have hwn : IntKind.i64.wrap (-inc) = -inc := by rw [IntKind.wrap_i64]; omega
  have HE := Lib.hid (And.intro hE (vAdd_no hE hq0))
  clear hneg hE hq0
  have E0 := (Env.start w).alloc (.cells #[.int .i64 0, .int .i64 0, .int .i64 0, .int .i64 0, .int .i64 0, .int .i64 0, .slice none 0 0] 39)
  simp at E0
  have R1 := fun W : World => rateRight_calls most W
  have R2 := fun W : World => rateRight_calls r W
  have R3 := fun W : World => curRight_calls life W
  have R4 := fun W : World => curRight_calls year W
  have hq : rightRate most = true ∧ rightRate r = true ∧ decide (0 ≤ life ∧ life ≤ 99) = true ∧ decide (0 ≤ year ∧ year ≤ 99) = true := by unfold curArg at ha; simpa using ha
  rw [hq.1] at R1
  rw [hq.2.1] at R2
  rw [hq.2.2.1] at R3
  rw [hq.2.2.2] at R4
  have hlb : 0 ≤ life ∧ life ≤ 99 := by simpa using hq.2.2.1
  have hyb : 0 ≤ year ∧ year ≤ 99 := by simpa using hq.2.2.2
  clear hq
  have IC := fun W : World => income_calls bk pm mv W
  go_enter Tryz.func55, Tryz.ntmps55
  go_wp2_with fail
  refine (R1 _).mono ?_
  rintro e w' ⟨rfl, rfl⟩
  go_wp2_with fail
  refine (R2 _).mono ?_
  rintro e w' ⟨rfl, rfl⟩
  go_wp2_with fail
  refine (R3 _).mono ?_
  rintro e w' ⟨rfl, rfl⟩
  go_wp2_with fail
  refine (R4 _).mono ?_
  rintro e w' ⟨rfl, rfl⟩
  go_wp2_with fail
  refine (IC _).mono ?_
  rw [HI.out, H0.out]
  rintro e w2 ⟨rfl, B2⟩
  have E2 := E0.below B2
  go_wp2_with fail
  refine (vintClone_calls b l h w2 (hs.of_below E2.low) S.pt (by have := S.good.len; omega)).mono ?_
  rintro e w3 ⟨h3, b3, rfl, p3, u3⟩
  have E3 := E2.new u3
  simp at E3
  have S3 : Vnt h3 b3 l := ⟨p3, S.good⟩
  go_wp2_with fail
  refine (Vnt.exp S3 E3 1 rfl year ⟨rfl, rfl⟩).mono ?_
  rintro e w4 ⟨h4, rfl, S4, E4⟩
  simp at E4
  generalize vGone l year = vg at *
  go_upto_region 8 with fail
  replace E4 := E4.alloc (.cells #[.int .i64 inc, .int .i64 vg, .int .i64 0, .int .i64 0, .int .i64 0, .int .i64 0, .slice none 0 0] 39)
  simp at E4
  obtain ⟨W, hW⟩ : ∃ W : World, W = w4.alloc (.cells #[.int .i64 inc, .int .i64 vg, .int .i64 0, .int .i64 0, .int .i64 0, .int .i64 0, .slice none 0 0] 39) := ⟨_, rfl⟩
  rw [← hW] at E4
  rw [← hW]
  clear hW
  have y0 := E4.cell 2 rfl 0 rfl
  have y1 := E4.cell 2 rfl 1 rfl
  have y2 := E4.cell 2 rfl 2 rfl
  have y3 := E4.cell 2 rfl 3 rfl
  have y4 := E4.cell 2 rfl 4 rfl
  have y5 := E4.cell 2 rfl 5 rfl
  have y6 := E4.cell 2 rfl 6 rfl
  generalize w4.heap.size = bB at *
  have yf := fun k => E4.free 2 rfl k
  have z := fun k v (h : [Value.int .i64 0, .int .i64 0, .int .i64 0, .int .i64 0, .int .i64 0, .int .i64 0, .slice none 0 0][k]? = some v) => E4.cell 0 rfl k h
  have z0 := z 0 _ rfl
  have z1 := z 1 _ rfl
  have z2 := z 2 _ rfl
  have z3 := z 3 _ rfl
  have z4 := z 4 _ rfl
  have z5 := z 5 _ rfl
  have z6 := z 6 _ rfl
  have zf := fun k => E4.free 0 rfl k
  clear z
  have hwy : IntKind.i64.wrap (year + life) = year + life := by rw [IntKind.wrap_i64]; omega
  have A0 := E4.cellset 2 rfl 3 (.int .i64 (-inc))
  simp only [List.set_cons_zero, List.set_cons_succ] at A0
  go_wp2_with fail
  refine (Vnt.add S4 A0 1 rfl year (year + life) (-inc) HE.out).mono ?_
  rintro e w5 ⟨h5, rfl, S5, E5⟩
  simp only [List.set_cons_zero, List.set_cons_succ] at E5
  clear z0 z1 z2 z3 z4 z5 z6 zf y0 y1 y2 y3 y4 y5 y6 yf A0 E4
  have z0 := E5.cell 0 rfl 0 rfl
  have z1 := E5.cell 0 rfl 1 rfl
  have z2 := E5.cell 0 rfl 2 rfl
  have z3 := E5.cell 0 rfl 3 rfl
  have z4 := E5.cell 0 rfl 4 rfl
  have z5 := E5.cell 0 rfl 5 rfl
  have z6 := E5.cell 0 rfl 6 rfl
  have zf := fun k => E5.free 0 rfl k
  go_wp2
  have G0 := E5.cellset 0 rfl 0 (.int .i64 0)
  simp only [List.set_cons_zero] at G0
  have G1 := G0.cellset 0 rfl 1 (.int .i64 0)
  simp only [List.set_cons_zero, List.set_cons_succ] at G1
  have G2 := G1.cellset 0 rfl 2 (.int .i64 0)
  simp only [List.set_cons_zero, List.set_cons_succ] at G2
  have G3 := G2.cellset 0 rfl 3 (.int .i64 0)
  simp only [List.set_cons_zero, List.set_cons_succ] at G3
  have G4 := G3.cellset 0 rfl 4 (.int .i64 0)
  simp only [List.set_cons_zero, List.set_cons_succ] at G4
  have G5 := G4.cellset 0 rfl 5 (.int .i64 0)
  simp only [List.set_cons_zero, List.set_cons_succ] at G5
  have G6 := G5.cellset 0 rfl 6 (.slice none 0 0)
  simp only [List.set_cons_zero, List.set_cons_succ] at G6
  exact bodyPost_ret (v := .tuple #[.agg #[.int .i64 0, .int .i64 0, .int .i64 0, .int .i64 0, .int .i64 0, .int .i64 0, .slice none 0 0], .pointer none, .int .i64 q]) (by simp [results, Tryz.results55, go_sem, z0, z1, z2, z3, z4, z5, z6]) rfl ⟨by rw [HN.out], G6.low⟩
end Go.Proofs.YtnfedcaehkcffaaGreat
end
section
/- current.Tax, in one. -/
namespace Go.Proofs.YtnfedcaehkcffaaGreat
open Go.RowKit Go.Sl
set_option maxHeartbeats 1000000
set_option maxRecDepth 100000
theorem curTax_calls (h : Hp) (b : Nat) (l : List STri) (bk pm mv most life year r : Int) (w : World) (hs : h.sub w) (S : Vnt h b l) :
    Calls Tryz.prog 55 #[.pointer (some ⟨b, 0, none⟩), .int .i64 bk, .int .i64 pm, .int .i64 mv, .int .i64 most, .int .i64 life, .int .i64 year, .int .i64 r] w fun e w' =>
      (curE l bk pm mv most life year r ≠ 0 ∧ e = .returned (.tuple #[noRes, .pointer none, .int .i64 (curE l bk pm mv most life year r)]) ∧ Below w.heap.size w w') ∨
      (curE l bk pm mv most life year r = 0 ∧ CurOk l (incV bk pm mv) most life year r w e w') := by
  cases ha : curArg most life year r with
  | false =>
    have hE : curE l bk pm mv most life year r = 1 := by unfold curE; rw [if_pos ha]
    rw [hE]
    exact (curTax_arg b l bk pm mv most life year r w ha).mono fun _ _ ⟨h1, h2⟩ => .inl ⟨by decide, h1, h2⟩
  | true =>
  cases hi : incOk bk pm mv with
  | false =>
    have hE : curE l bk pm mv most life year r = 6 := by unfold curE; rw [if_neg (by simp [ha]), if_pos hi]
    rw [hE]
    exact (curTax_over b bk pm mv most life year r w ha hi).mono fun _ _ ⟨h1, h2⟩ => .inl ⟨by decide, h1, h2⟩
  | true =>
  by_cases hn : incV bk pm mv < 0
  · have hE : curE l bk pm mv most life year r = vAddE (vExp l year) year (year + life) (-(incV bk pm mv)) := by
      unfold curE; rw [if_neg (by simp [ha]), if_neg (by simp [hi]), if_pos hn]
    rw [hE]
    rcases Int.decEq (vAddE (vExp l year) year (year + life) (-(incV bk pm mv))) 0 with h0 | h0
    · exact (curTax_lossErr h b l bk pm mv most life year r w hs S ha hi _ rfl hn _ rfl h0).mono fun _ _ ⟨h1, h2⟩ => .inl ⟨h0, h1, h2⟩
    · exact (curTax_loss h b l bk pm mv most life year r w hs S ha hi _ rfl hn h0).mono fun _ _ h1 => .inr ⟨h0, h1⟩
  · have hE : curE l bk pm mv most life year r = 0 := by
      unfold curE; rw [if_neg (by simp [ha]), if_neg (by simp [hi]), if_neg hn]
    rw [hE]
    by_cases hz : incV bk pm mv = 0
    · refine (curTax_zero h b l bk pm mv most life year r w hs S ha hi hz).mono fun _ _ h1 => .inr ⟨rfl, ?_⟩
      rw [hz]; exact h1
    · exact (curTax_profit h b l bk pm mv most life year r w hs S ha hi _ rfl (by omega)).mono fun _ _ h1 => .inr ⟨rfl, h1⟩
end Go.Proofs.YtnfedcaehkcffaaGreat
end
section
/- The results of a function whose first result is a struct's variable. No program is named here. -/
namespace Go.Sl
open Go Go.RowKit
theorem results_cell3 {P : Program} {fn : Func} {a b c : Nat} {t : TypeId} (hf : fn.results = #[.cell a t, .tmp b, .tmp c]) {tmps : Array Value} {W : World} {x : Addr} {v : Value} (h1 : tmps.getD a undef = .pointer (some x)) (hl : (loadVar t x).run P W = .ok v W) :
    (results fn tmps).run P W = .ok (.tuple #[v, tmps.getD b undef, tmps.getD c undef]) W := by
  unfold results
  rw [hf]
  have e : ∀ {f : ResultVar → Sem Value}, (#[ResultVar.cell a t, ResultVar.tmp b, ResultVar.tmp c] : Array ResultVar).mapM f = (do let x ← f (.cell a t); let y ← f (.tmp b); let z ← f (.tmp c); pure #[x, y, z]) := by
    intro f
    simp [Array.mapM_eq_foldlM]
  rw [e]
  simp only [Sem.run_bind, Sem.run_pure, Result.andThen_ok, h1, asAddr, hl]
  rfl
/-- The same, at a frame: the struct is part i of what the body holds. -/
theorem results_env3 {P : Program} {fn : Func} {a b c : Nat} {t : TypeId} (hf : fn.results = #[.cell a t, .tmp b, .tmp c]) {tmps : Array Value} {w0 W : World} {l : List Hp} {bl : Nat} {cs : List Value} {T : TypeId} (E : Env w0 W l) (i : Nat) (hi : l[i]? = some (Hp.box bl cs T))
    (h1 : tmps.getD a undef = .pointer (some ⟨bl, 0, none⟩)) {d : TypeDesc} (hu : P.underlying t = some d) (hd : d.isRow = true) (hs : (P.info? t).map (·.size) = some cs.length) {y z : Value} (h2 : tmps.getD b undef = y) (h3 : tmps.getD c undef = z) :
    (results fn tmps).run P W = .ok (.tuple #[.agg cs.toArray, y, z]) W := by
  rw [← h2, ← h3]
  exact results_cell3 hf h1 (run_loadVar_mid W bl 0 t cs d (E.rangeMid i hi 0 cs (by simp)) hu hd hs)
end Go.Sl
end
