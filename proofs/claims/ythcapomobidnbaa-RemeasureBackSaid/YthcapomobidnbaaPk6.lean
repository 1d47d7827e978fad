/- Walks and plain facts that the laws of this seat share, part 6: contracts of functions, each said at its theorem. -/
import Derived.Test.YthcapomobidnbaaPk5
import Derived.StillTailTactics
import Derived.Deep.QuietTactic
import Derived.BigQuiet
import Derived.Laws.MakeOwn
import Derived.Laws.OwnMore
section
/- The walks of ref01.Right, ref01.Part, ref09.Remeasure. -/
namespace Go.Proofs.Ythcapomobidnbaa
open Go.RowKit Go.Sl
set_option maxHeartbeats 2000000
set_option maxRecDepth 100000
theorem refRight_calls (r : Int) (w : World) : Calls Try.prog 48 #[.int .i64 r] w fun e w' => e = .returned (.bool (rightRate r)) ∧ w = w' := by
  go_enter Try.func48, Try.ntmps48
  go_wp2
  all_goals
    go_ret
    exact ⟨by simp [rightRate]; omega, rfl⟩
theorem refPart_calls (n r : Int) (w : World) : Calls Try.prog 50 #[.int .i64 n, .int .i64 r] w fun e w' => e = .returned (.int .i64 (ofVal n r)) ∧ w = w' := by
  go_enter Try.func50, Try.ntmps50
  go_wp2_with (go_at_call 73; refine (refOf_calls n r _).mono ?_; rintro e w' ⟨rfl, rfl⟩)
  go_ret
  exact ⟨rfl, rfl⟩
theorem refRem_calls (A B D F : Option Addr) (ca cb cd cf : Nat) (xs ys : List STri) (os ns : List Int) (h k p q : Hp) (w : World) (hs : h.sub w) (ks : k.sub w) (ps : p.sub w) (qs : q.sub w)
    (sx : Sl kTri h A ca xs) (sy : Sl kTri k B cb ys) (so : Sl kInt p D cd os) (sn : Sl kInt q F cf ns) :
    Calls Try.prog 31 #[.slice A xs.length ca, .slice B ys.length cb, .slice D os.length cd, .slice F ns.length cf] w fun e w' =>
      e = .returned (.tuple #[.agg #[.int .i64 (remMo (refFwd xs ys) os ns), .int .i64 (remRa (refFwd xs ys) os ns)], .int .i64 (remE (refFwd xs ys) os ns)]) ∧ Below w.heap.size w w' := by
  have m3 := so.small
  have m4 := sn.small
  have hl := clsTo_len xs ys 9
  obtain ⟨rows, HRW⟩ : ∃ rows, Hid (rows = refFwd xs ys) := ⟨_, rfl⟩
  have hl2 : rows.length ≤ 1000 := by rw [HRW.out]; exact Nat.le_trans hl (by decide)
  have FC : ∀ (W : World) (l : List Hp) (E : Env w W l), Calls Try.prog 24 #[.slice A xs.length ca, .slice B ys.length cb] W fun e w' => ∃ C cap h', e = .returned (.slice C rows.length cap) ∧ Ow kWay h' C cap rows ∧ Env w w' (l ++ [h']) := by
    rw [HRW.out]
    exact fun W l E => (refForward_calls A B ca cb xs ys h k W (hs.of_below E.low) (ks.of_below E.low) sx sy).mono fun _ _ ⟨C, cap, h', he, ho, u⟩ => ⟨C, cap, h', he, ho, E.new u⟩
  rw [← HRW.out]
  clear HRW hl
  have E1 := (Env.start w).alloc (.cells #[.int .i64 0, .int .i64 0] 60)
  simp at E1
  go_enter Try.func31, Try.ntmps31
  go_wp2_with fail
  refine (FC _ _ E1).mono ?_
  rintro e w1 ⟨C, n1, h1, rfl, o1, E2⟩
  simp at E2
  clear FC
  have z0 := E2.cell 0 rfl 0 rfl
  have z1 := E2.cell 0 rfl 1 rfl
  have zf := E2.free 0 rfl
  by_cases hlen : os.length = rows.length ∧ ns.length = rows.length
  · obtain ⟨l1, l2⟩ := hlen
    have L1 := Lib.hid l1
    have L2 := Lib.hid l2
    have t1 : ((os.length : Int) != (rows.length : Int)) = false := by simp [l1]
    have t2 : ((ns.length : Int) != (rows.length : Int)) = false := by simp [l2]
    have HE : Hid (remE rows os ns = if remAll rows os ns = false then 1 else if (money (sumM rows ns) && money (sumR rows os ns)) = false then 6 else 0) := by
      unfold Hid remE; rw [if_neg (by omega)]
    clear l1 l2
    have E3 := E2.alloc (.cells #[.int .i64 0, .int .i64 0] 60)
    simp at E3
    go_wp2
    go_loopw [33] (fun i wr => ∃ (j : Nat) (M R : Int), j ≤ rows.length ∧ i = .int .i64 j ∧ Hid (remAll (rows.take j) (os.take j) (ns.take j) = true) ∧ Hid (M = sumM (rows.take j) (ns.take j)) ∧ Hid (R = sumR (rows.take j) (os.take j) (ns.take j)) ∧ Env w wr [Hp.box w.heap.size [.int .i64 0, .int .i64 0] 60, h1, Hp.box w1.heap.size [.int .i64 M, .int .i64 R] 60]) (fun i _ => rows.length - (intOf i).toNat)
    case atStart => exact ⟨0, 0, 0, by omega, rfl, rfl, rfl, rfl, E3⟩
    case round =>
      clear E1 E2 E3 z0 z1 zf
      obtain ⟨j, M, R, hj, rfl, ha, hM, hR, E⟩ := hrel
      have z0 := E.cell 0 rfl 0 rfl
      have z1 := E.cell 0 rfl 1 rfl
      have zf := E.free 0 rfl
      have y0 := E.cell 2 rfl 0 rfl
      have y1 := E.cell 2 rfl 1 rfl
      have yf := E.free 2 rfl
      by_cases hlt : j < rows.length
      · obtain ⟨x, hxx⟩ := some_of_lt hlt
        obtain ⟨o, hoo⟩ := some_of_lt (show j < os.length by rw [L1.out]; exact hlt)
        obtain ⟨n, hnn⟩ := some_of_lt (show j < ns.length by rw [L2.out]; exact hlt)
        obtain ⟨b1, o1', rfl, c1, c2, c3, c4, c5⟩ := o1.sl.way (E.sub 1 rfl) hxx
        obtain ⟨b2, o2', rfl, d1⟩ := so.int (ps.of_below E.low) hoo
        obtain ⟨b3, o3', rfl, d2⟩ := sn.int (qs.of_below E.low) hnn
        have d1a := fun o => (cell_alloc (o := o) (World.block_lt_of_cell? _ _ d1)).trans d1
        have d2a := fun o => (cell_alloc (o := o) (World.block_lt_of_cell? _ _ d2)).trans d2
        have z0a := fun o => (cell_alloc (o := o) (World.block_lt_of_cell? _ _ z0)).trans z0
        have z1a := fun o => (cell_alloc (o := o) (World.block_lt_of_cell? _ _ z1)).trans z1
        have y0a := fun o => (cell_alloc (o := o) (World.block_lt_of_cell? _ _ y0)).trans y0
        have y1a := fun o => (cell_alloc (o := o) (World.block_lt_of_cell? _ _ y1)).trans y1
        have zfa := fun o n => (frozen_alloc (o := o) (n := n) (World.block_lt_of_cell? _ _ z0)).trans (zf n)
        have yfa := fun o n => (frozen_alloc (o := o) (n := n) (World.block_lt_of_cell? _ _ y0)).trans (yf n)
        have i1 : (0 : Int) ≤ (j : Int) := by omega
        have i2 : (j : Int) < (rows.length : Int) := by omega
        have i3 : (j : Int) < (os.length : Int) := by rw [L1.out]; omega
        have i4 : (j : Int) < (ns.length : Int) := by rw [L2.out]; omega
        have hb1 := sumM_bd (rows.take j) (ns.take j)
        have hb2 := sumR_bd (rows.take j) (os.take j) (ns.take j)
        rw [← hM.out, List.length_take] at hb1
        rw [← hR.out, List.length_take] at hb2
        have HB : (-8000000000002000 ≤ M ∧ M ≤ 8000000000002000) ∧ (-8000000000002000 ≤ R ∧ R ≤ 8000000000002000) := by omega
        clear hb1 hb2
        obtain ⟨⟨q1, q2⟩, q3, q4⟩ := HB
        obtain ⟨q5, q6⟩ := ofVal_bd x.opn o
        obtain ⟨q7, q8⟩ := ofVal_bd x.opn n
        obtain ⟨q9, q10⟩ := ofVal_bd x.clo n
        have hll1 : (rows.take j).length = (os.take j).length := by rw [List.length_take, List.length_take, L1.out]
        have hll2 : (rows.take j).length = (ns.take j).length := by rw [List.length_take, List.length_take, L2.out]
        have HTa : Hid (remAll (rows.take (j + 1)) (os.take (j + 1)) (ns.take (j + 1)) = remOk x o n) := by
          unfold Hid; rw [take_next hxx, take_next hoo, take_next hnn, remAll_snoc hll1 hll2, ha.out]; rfl
        have HTm : Hid (sumM (rows.take (j + 1)) (ns.take (j + 1)) = M + (ofVal x.clo n - ofVal x.opn n)) := by
          unfold Hid; rw [take_next hxx, take_next hnn, sumM_snoc hll2, hM.out]; rfl
        have HTr : Hid (sumR (rows.take (j + 1)) (os.take (j + 1)) (ns.take (j + 1)) = R + (ofVal x.opn n - ofVal x.opn o)) := by
          unfold Hid; rw [take_next hxx, take_next hoo, take_next hnn, sumR_snoc hll1 hll2, hR.out]; rfl
        clear hll1 hll2
        have HNo : remOk x o n = false → Hid (remE rows os ns = 1) := fun h => by
          unfold Hid; rw [HE.out, if_pos (remAll_no hxx.out hoo.out hnn.out h)]
        have HO1 := fun W => refPart_calls x.opn o W
        have HO2 := fun W => refPart_calls x.opn n W
        have HO3 := fun W => refPart_calls x.clo n W
        have RO := fun W => refRight_calls o W
        have RN := fun W => refRight_calls n W
        have M1 := fun W => refMoney_calls x.opn W
        have M2 := fun W => refMoney_calls x.clo W
        have HOK : remOk x o n = (rightRate o && (rightRate n && (money x.opn && money x.clo))) := rfl
        generalize ofVal x.opn o = v1 at *
        generalize ofVal x.opn n = v2 at *
        generalize ofVal x.clo n = v3 at *
        generalize remOk x o n = ok at *
        cases e0 : rightRate o with
        | false =>
          have hf : ok = false := by rw [HOK, e0]; rfl
          have HE1 := HNo hf
          have HEm : Hid (remMo rows os ns = 0) := by unfold Hid remMo; rw [HE1.out]; rfl
          have HEr : Hid (remRa rows os ns = 0) := by unfold Hid remRa; rw [HE1.out]; rfl
          rw [e0] at RO
          clear HNo HOK HTa hf HO1 HO2 HO3 e0
          go_wp2_with (first
            | (go_at_call 48; ((with_reducible refine (RO _).mono ?_)); rintro e w' ⟨rfl, rfl⟩)
            | (go_at_call 48; ((with_reducible refine (RN _).mono ?_)); rintro e w' ⟨rfl, rfl⟩)
            | (go_at_call 49; ((with_reducible refine (M1 _).mono ?_)); rintro e w' ⟨rfl, rfl⟩)
            | (go_at_call 49; ((with_reducible refine (M2 _).mono ?_)); rintro e w' ⟨rfl, rfl⟩))
          exact bodyPost_ret (v := .tuple #[.agg #[.int .i64 0, .int .i64 0], .int .i64 1]) (by simp [results, Try.results31, go_sem, z0a, z1a]) rfl ⟨by rw [HE1.out, HEm.out, HEr.out], ((Env.cellset (by repeat (first | (with_reducible exact E) | (with_reducible apply Env.drew) | (with_reducible apply Env.drewN) | (with_reducible apply Env.alloc'))) 0 rfl 0 _).cellset 0 rfl 1 _).low⟩
        | true =>
        rw [e0] at RO
        cases e1 : rightRate n with
        | false =>
          have hf : ok = false := by rw [HOK, e0, e1]; rfl
          have HE1 := HNo hf
          have HEm : Hid (remMo rows os ns = 0) := by unfold Hid remMo; rw [HE1.out]; rfl
          have HEr : Hid (remRa rows os ns = 0) := by unfold Hid remRa; rw [HE1.out]; rfl
          rw [e1] at RN
          clear HNo HOK HTa hf HO1 HO2 HO3 e0 e1
          go_wp2_with (first
            | (go_at_call 48; ((with_reducible refine (RO _).mono ?_)); rintro e w' ⟨rfl, rfl⟩)
            | (go_at_call 48; ((with_reducible refine (RN _).mono ?_)); rintro e w' ⟨rfl, rfl⟩)
            | (go_at_call 49; ((with_reducible refine (M1 _).mono ?_)); rintro e w' ⟨rfl, rfl⟩)
            | (go_at_call 49; ((with_reducible refine (M2 _).mono ?_)); rintro e w' ⟨rfl, rfl⟩))
          exact bodyPost_ret (v := .tuple #[.agg #[.int .i64 0, .int .i64 0], .int .i64 1]) (by simp [results, Try.results31, go_sem, z0a, z1a]) rfl ⟨by rw [HE1.out, HEm.out, HEr.out], ((Env.cellset (by repeat (first | (with_reducible exact E) | (with_reducible apply Env.drew) | (with_reducible apply Env.drewN) | (with_reducible apply Env.alloc'))) 0 rfl 0 _).cellset 0 rfl 1 _).low⟩
        | true =>
        rw [e1] at RN
        cases e2 : money x.opn with
        | false =>
          have hf : ok = false := by rw [HOK, e0, e1, e2]; rfl
          have HE1 := HNo hf
          have HEm : Hid (remMo rows os ns = 0) := by unfold Hid remMo; rw [HE1.out]; rfl
          have HEr : Hid (remRa rows os ns = 0) := by unfold Hid remRa; rw [HE1.out]; rfl
          rw [e2] at M1
          clear HNo HOK HTa hf HO1 HO2 HO3 e0 e1 e2
          go_wp2_with (first
            | (go_at_call 48; ((with_reducible refine (RO _).mono ?_)); rintro e w' ⟨rfl, rfl⟩)
            | (go_at_call 48; ((with_reducible refine (RN _).mono ?_)); rintro e w' ⟨rfl, rfl⟩)
            | (go_at_call 49; ((with_reducible refine (M1 _).mono ?_)); rintro e w' ⟨rfl, rfl⟩)
            | (go_at_call 49; ((with_reducible refine (M2 _).mono ?_)); rintro e w' ⟨rfl, rfl⟩))
          exact bodyPost_ret (v := .tuple #[.agg #[.int .i64 0, .int .i64 0], .int .i64 1]) (by simp [results, Try.results31, go_sem, z0a, z1a]) rfl ⟨by rw [HE1.out, HEm.out, HEr.out], ((Env.cellset (by repeat (first | (with_reducible exact E) | (with_reducible apply Env.drew) | (with_reducible apply Env.drewN) | (with_reducible apply Env.alloc'))) 0 rfl 0 _).cellset 0 rfl 1 _).low⟩
        | true =>
        rw [e2] at M1
        cases e3 : money x.clo with
        | false =>
          have hf : ok = false := by rw [HOK, e0, e1, e2, e3]; rfl
          have HE1 := HNo hf
          have HEm : Hid (remMo rows os ns = 0) := by unfold Hid remMo; rw [HE1.out]; rfl
          have HEr : Hid (remRa rows os ns = 0) := by unfold Hid remRa; rw [HE1.out]; rfl
          rw [e3] at M2
          clear HNo HOK HTa hf HO1 HO2 HO3 e0 e1 e2 e3
          go_wp2_with (first
            | (go_at_call 48; ((with_reducible refine (RO _).mono ?_)); rintro e w' ⟨rfl, rfl⟩)
            | (go_at_call 48; ((with_reducible refine (RN _).mono ?_)); rintro e w' ⟨rfl, rfl⟩)
            | (go_at_call 49; ((with_reducible refine (M1 _).mono ?_)); rintro e w' ⟨rfl, rfl⟩)
            | (go_at_call 49; ((with_reducible refine (M2 _).mono ?_)); rintro e w' ⟨rfl, rfl⟩))
          exact bodyPost_ret (v := .tuple #[.agg #[.int .i64 0, .int .i64 0], .int .i64 1]) (by simp [results, Try.results31, go_sem, z0a, z1a]) rfl ⟨by rw [HE1.out, HEm.out, HEr.out], ((Env.cellset (by repeat (first | (with_reducible exact E) | (with_reducible apply Env.drew) | (with_reducible apply Env.drewN) | (with_reducible apply Env.alloc'))) 0 rfl 0 _).cellset 0 rfl 1 _).low⟩
        | true =>
        rw [e3] at M2
        have hf : ok = true := by rw [HOK, e0, e1, e2, e3]; rfl
        rw [hf] at HTa
        clear HNo HOK e0 e1 e2 e3 hf
        go_wp2_with (first
          | (go_at_call 48; ((with_reducible refine (RO _).mono ?_)); rintro e w' ⟨rfl, rfl⟩)
          | (go_at_call 48; ((with_reducible refine (RN _).mono ?_)); rintro e w' ⟨rfl, rfl⟩)
          | (go_at_call 49; ((with_reducible refine (M1 _).mono ?_)); rintro e w' ⟨rfl, rfl⟩)
          | (go_at_call 49; ((with_reducible refine (M2 _).mono ?_)); rintro e w' ⟨rfl, rfl⟩))
        clear d1a d2a z0a z1a y0a y1a zfa yfa c1 c2 c3 c4 c5
        have EW := E.alloc (.cells #[.int .i64 x.cls, .int .i64 x.yr, .int .i64 x.opn, .int .i64 x.mov, .int .i64 x.clo] 44)
        have BW : Below wr.heap.size wr (wr.alloc (.cells #[.int .i64 x.cls, .int .i64 x.yr, .int .i64 x.opn, .int .i64 x.mov, .int .i64 x.clo] 44)) := (Below.refl _ _).alloc (Nat.le_refl _) _
        generalize wr.alloc (.cells #[.int .i64 x.cls, .int .i64 x.yr, .int .i64 x.opn, .int .i64 x.mov, .int .i64 x.clo] 44) = W at *
        simp at EW
        clear z0 z1 zf y0 y1 yf
        have dl1 := World.block_lt_of_cell? wr _ d1
        have dl2 := World.block_lt_of_cell? wr _ d2
        have y0 := EW.cell 2 rfl 0 rfl
        have y1 := EW.cell 2 rfl 1 rfl
        have yf := EW.free 2 rfl
        have r2 := EW.cell 3 rfl 2 rfl
        have r4 := EW.cell 3 rfl 4 rfl
        replace d1 := (BW.cell (World.block_lt_of_cell? _ _ d1)).trans d1
        replace d2 := (BW.cell (World.block_lt_of_cell? _ _ d2)).trans d2
        have RS1 : ∀ V, Env w V [Hp.box w.heap.size [.int .i64 0, .int .i64 0] 60, h1, Hp.box w1.heap.size [.int .i64 M, .int .i64 R] 60, Hp.box wr.heap.size [.int .i64 x.cls, .int .i64 x.yr, .int .i64 x.opn, .int .i64 x.mov, .int .i64 x.clo] 44] → Env w (V.setCell ⟨w1.heap.size, 1, none⟩ (.int .i64 (R + (v2 - v1)))) [Hp.box w.heap.size [.int .i64 0, .int .i64 0] 60, h1, Hp.box w1.heap.size [.int .i64 M, .int .i64 (R + (v2 - v1))] 60, Hp.box wr.heap.size [.int .i64 x.cls, .int .i64 x.yr, .int .i64 x.opn, .int .i64 x.mov, .int .i64 x.clo] 44] := fun V EV => EV.cellset 2 rfl 1 _
        refine wp_region_still_tail 19 (by kernel_rfl) (by kernel_rfl) ?_
        simp only [List.take_succ_cons, List.take_zero, List.drop_succ_cons, List.drop_zero]
        repeat still_step
        still_call ((HO2 _).mono fun _ _ ⟨a, b⟩ => ⟨a, b.symm⟩)
        repeat still_step
        still_call ((HO1 _).mono fun _ _ ⟨a, b⟩ => ⟨a, b.symm⟩)
        repeat still_step
        refine wpStill_nil ?_
        change wpList _ _ _ _ _ W.drew
        go_wp2
        have E4 := (RS1 _ EW).drew
        clear y0 y1 yf r2 r4 d1 d2 dl1 dl2 BW RS1
        generalize (W.setCell ⟨w1.heap.size, 1, none⟩ (.int .i64 (R + (v2 - v1)))).drew = V2 at *
        have y0 := E4.cell 2 rfl 0 rfl
        have yf := E4.free 2 rfl
        have r2 := E4.cell 3 rfl 2 rfl
        have r4 := E4.cell 3 rfl 4 rfl
        obtain ⟨b3', o3'', e3, d2⟩ := sn.int (qs.of_below E4.low) hnn
        cases e3
        have RS2 : ∀ V, Env w V [Hp.box w.heap.size [.int .i64 0, .int .i64 0] 60, h1, Hp.box w1.heap.size [.int .i64 M, .int .i64 (R + (v2 - v1))] 60, Hp.box wr.heap.size [.int .i64 x.cls, .int .i64 x.yr, .int .i64 x.opn, .int .i64 x.mov, .int .i64 x.clo] 44] → Env w (V.setCell ⟨w1.heap.size, 0, none⟩ (.int .i64 (M + (v3 - v2)))) [Hp.box w.heap.size [.int .i64 0, .int .i64 0] 60, h1, Hp.box w1.heap.size [.int .i64 (M + (v3 - v2)), .int .i64 (R + (v2 - v1))] 60, Hp.box wr.heap.size [.int .i64 x.cls, .int .i64 x.yr, .int .i64 x.opn, .int .i64 x.mov, .int .i64 x.clo] 44] := fun V EV => EV.cellset 2 rfl 0 _
        refine wp_region_still_tail 19 (by kernel_rfl) (by kernel_rfl) ?_
        simp only [List.take_succ_cons, List.take_zero, List.drop_succ_cons, List.drop_zero]
        repeat still_step
        still_call ((HO3 _).mono fun _ _ ⟨a, b⟩ => ⟨a, b.symm⟩)
        repeat still_step
        still_call ((HO2 _).mono fun _ _ ⟨a, b⟩ => ⟨a, b.symm⟩)
        repeat still_step
        refine wpStill_nil ?_
        change wpList _ _ _ _ _ V2.drew
        go_wp2
        have E5 := (RS2 _ E4).drew.drop 3
        simp at E5
        go_roundw
        case rel => exact ⟨j + 1, M + (v3 - v2), R + (v2 - v1), by omega, by go_num, HTa, by unfold Hid; rw [HTm.out], by unfold Hid; rw [HTr.out], E5⟩
        case measure => simp [intOf]; omega
      · obtain rfl : j = rows.length := by omega
        rw [List.take_length, List.take_of_length_le (Nat.le_of_eq L1.out), List.take_of_length_le (Nat.le_of_eq L2.out)] at ha
        rw [List.take_length, List.take_of_length_le (Nat.le_of_eq L2.out)] at hM
        rw [List.take_length, List.take_of_length_le (Nat.le_of_eq L1.out), List.take_of_length_le (Nat.le_of_eq L2.out)] at hR
        have M1 := fun W => refMoney_calls M W
        have M2 := fun W => refMoney_calls R W
        have HE2 : Hid (remE rows os ns = if (money M && money R) = false then 6 else 0) := by unfold Hid; rw [HE.out, ha.out, ← hM.out, ← hR.out]; rfl
        cases e0 : money M with
        | false =>
          have HE1 : Hid (remE rows os ns = 6) := by unfold Hid; rw [HE2.out, e0]; rfl
          have HEm : Hid (remMo rows os ns = 0) := by unfold Hid remMo; rw [HE1.out]; rfl
          have HEr : Hid (remRa rows os ns = 0) := by unfold Hid remRa; rw [HE1.out]; rfl
          rw [e0] at M1
          clear e0 HE2
          go_wp2_with (go_at_call 49; refine (M1 _).mono ?_; rintro e w' ⟨rfl, rfl⟩)
          exact bodyPost_ret (v := .tuple #[.agg #[.int .i64 0, .int .i64 0], .int .i64 6]) (by simp [results, Try.results31, go_sem, z0, z1]) rfl ⟨by rw [HE1.out, HEm.out, HEr.out], ((Env.cellset (by repeat (first | (with_reducible exact E) | (with_reducible apply Env.drew) | (with_reducible apply Env.drewN) | (with_reducible apply Env.alloc'))) 0 rfl 0 _).cellset 0 rfl 1 _).low⟩
        | true =>
        cases e1 : money R with
        | false =>
          have HE1 : Hid (remE rows os ns = 6) := by unfold Hid; rw [HE2.out, e0, e1]; rfl
          have HEm : Hid (remMo rows os ns = 0) := by unfold Hid remMo; rw [HE1.out]; rfl
          have HEr : Hid (remRa rows os ns = 0) := by unfold Hid remRa; rw [HE1.out]; rfl
          rw [e0] at M1
          rw [e1] at M2
          clear e0 e1 HE2
          go_wp2_with (first
            | (go_at_call 49; ((with_reducible refine (M1 _).mono ?_)); rintro e w' ⟨rfl, rfl⟩)
            | (go_at_call 49; ((with_reducible refine (M2 _).mono ?_)); rintro e w' ⟨rfl, rfl⟩))
          exact bodyPost_ret (v := .tuple #[.agg #[.int .i64 0, .int .i64 0], .int .i64 6]) (by simp [results, Try.results31, go_sem, z0, z1]) rfl ⟨by rw [HE1.out, HEm.out, HEr.out], ((Env.cellset (by repeat (first | (with_reducible exact E) | (with_reducible apply Env.drew) | (with_reducible apply Env.drewN) | (with_reducible apply Env.alloc'))) 0 rfl 0 _).cellset 0 rfl 1 _).low⟩
        | true =>
          have HE1 : Hid (remE rows os ns = 0) := by unfold Hid; rw [HE2.out, e0, e1]; rfl
          have HEm : Hid (remMo rows os ns = M) := by unfold Hid remMo; rw [HE1.out, if_pos rfl, ← hM.out]
          have HEr : Hid (remRa rows os ns = R) := by unfold Hid remRa; rw [HE1.out, if_pos rfl, ← hR.out]
          rw [e0] at M1
          rw [e1] at M2
          clear e0 e1 HE2
          go_wp2_with (first
            | (go_at_call 49; ((with_reducible refine (M1 _).mono ?_)); rintro e w' ⟨rfl, rfl⟩)
            | (go_at_call 49; ((with_reducible refine (M2 _).mono ?_)); rintro e w' ⟨rfl, rfl⟩))
          exact bodyPost_ret (v := .tuple #[.agg #[.int .i64 M, .int .i64 R], .int .i64 0]) (by simp [results, Try.results31, go_sem, z0, z1]) rfl ⟨by rw [HE1.out, HEm.out, HEr.out], ((Env.cellset (by repeat (first | (with_reducible exact E) | (with_reducible apply Env.drew) | (with_reducible apply Env.drewN) | (with_reducible apply Env.alloc'))) 0 rfl 0 _).cellset 0 rfl 1 _).low⟩
  · have HE : Hid (remE rows os ns = 1) := by unfold Hid remE; rw [if_pos (by omega)]
    have HM : Hid (remMo rows os ns = 0) := by unfold Hid remMo; rw [HE.out]; rfl
    have HR : Hid (remRa rows os ns = 0) := by unfold Hid remRa; rw [HE.out]; rfl
    by_cases l1 : os.length = rows.length
    · have t1 : ((os.length : Int) != (rows.length : Int)) = false := by simp [l1]
      have t2 : ((ns.length : Int) != (rows.length : Int)) = true := by simp; omega
      clear hlen l1
      go_wp2
      exact bodyPost_ret (v := .tuple #[.agg #[.int .i64 0, .int .i64 0], .int .i64 1]) (by simp [results, Try.results31, go_sem, z0, z1]) rfl ⟨by rw [HE.out, HM.out, HR.out], ((E2.cellset 0 rfl 0 _).cellset 0 rfl 1 _).low⟩
    · have t1 : ((os.length : Int) != (rows.length : Int)) = true := by simp; omega
      clear hlen l1
      go_wp2
      exact bodyPost_ret (v := .tuple #[.agg #[.int .i64 0, .int .i64 0], .int .i64 1]) (by simp [results, Try.results31, go_sem, z0, z1]) rfl ⟨by rw [HE.out, HM.out, HR.out], ((E2.cellset 0 rfl 0 _).cellset 0 rfl 1 _).low⟩
end Go.Proofs.Ythcapomobidnbaa
end
section
/- The walk of measure.Temp. -/
namespace Go.Proofs.Ythcapomobidnbaa
open Go.RowKit Go.Sl
set_option maxHeartbeats 2000000
set_option maxRecDepth 100000
theorem meaTemp_calls (A D : Option Addr) (ca cd : Nat) (xs : List STri) (rs : List Int) (h p : Hp) (w : World) (hs : h.sub w) (ps : p.sub w) (sx : Sl kTri h A ca xs) (so : Sl kInt p D cd rs) (hx : xs.length ≤ 1000) :
    Calls Try.prog 32 #[.slice A xs.length ca, .slice D rs.length cd] w fun e w' => e = .returned (.tuple #[.int .i64 (meaN xs rs), .int .i64 (meaE xs rs)]) ∧ Below w.heap.size w w' := by
  have m3 := so.small
  go_enter Try.func32, Try.ntmps32
  by_cases hlen : rs.length = xs.length
  · have L1 := Lib.hid hlen
    have t1 : ((rs.length : Int) != (xs.length : Int)) = false := by simp [hlen]
    have HE : Hid (meaE xs rs = if meaAll xs rs = false then 1 else if money (-meaS xs rs) = false then 6 else 0) := by
      unfold Hid meaE; rw [if_neg (by omega)]
    clear hlen
    go_wp2
    go_loopw [6, 18] (fun s i wr => ∃ (j : Nat) (M : Int), j ≤ xs.length ∧ i = .int .i64 j ∧ s = .int .i64 (-M) ∧ Hid (meaAll (xs.take j) (rs.take j) = true) ∧ Hid (M = meaS (xs.take j) (rs.take j)) ∧ Below w.heap.size w wr) (fun _ i _ => xs.length - (intOf i).toNat)
    case atStart => exact ⟨0, 0, by omega, rfl, rfl, rfl, rfl, Below.refl _ _⟩
    case round =>
      obtain ⟨j, M, hj, rfl, rfl, ha, hM, hb⟩ := hrel
      have hb1 := meaS_bd (xs.take j) (rs.take j)
      rw [← hM.out, List.length_take] at hb1
      have HB : -4000000000001000 ≤ M ∧ M ≤ 4000000000001000 := by omega
      clear hb1
      obtain ⟨q1, q2⟩ := HB
      by_cases hlt : j < xs.length
      · obtain ⟨x, hxx⟩ := some_of_lt hlt
        obtain ⟨r, hrr⟩ := some_of_lt (show j < rs.length by rw [L1.out]; exact hlt)
        obtain ⟨b1, o1, rfl, c1, c2, c3⟩ := sx.tri (hs.of_below hb) hxx
        obtain ⟨b2, o2, rfl, d1⟩ := so.int (ps.of_below hb) hrr
        have d1a := fun o => (cell_alloc (o := o) (World.block_lt_of_cell? _ _ d1)).trans d1
        have i1 : (0 : Int) ≤ (j : Int) := by omega
        have i2 : (j : Int) < (xs.length : Int) := by omega
        have i3 : (j : Int) < (rs.length : Int) := by rw [L1.out]; omega
        obtain ⟨q3, q4⟩ := ofVal_bd x.c r
        have hll : (xs.take j).length = (rs.take j).length := by rw [List.length_take, List.length_take, L1.out]
        have HTa : Hid (meaAll (xs.take (j + 1)) (rs.take (j + 1)) = meaOk x r) := by
          unfold Hid; rw [take_next hxx, take_next hrr, meaAll_snoc hll, ha.out]; rfl
        have HTm : Hid (meaS (xs.take (j + 1)) (rs.take (j + 1)) = M + ofVal x.c r) := by
          unfold Hid; rw [take_next hxx, take_next hrr, meaS_snoc hll, hM.out]
        clear hll
        have HNo : meaOk x r = false → Hid (meaE xs rs = 1) := fun h => by
          unfold Hid; rw [HE.out, if_pos (meaAll_no hxx.out hrr.out h)]
        have HO := fun W => of_calls x.c r W
        have RO := fun W => rateRight_calls r W
        have M1 := fun W => money_calls x.c W
        have HOK : meaOk x r = (rightRate r && money x.c) := rfl
        generalize ofVal x.c r = v1 at *
        generalize meaOk x r = ok at *
        cases e0 : rightRate r with
        | false =>
          have HE1 := HNo (by rw [HOK, e0]; rfl)
          have HN1 : Hid (meaN xs rs = 0) := by unfold Hid meaN; rw [HE1.out]; rfl
          rw [e0] at RO
          clear HNo HOK HTa HO e0
          go_wp2_with (first
            | (go_at_call 44; refine (RO _).mono ?_; rintro e w' ⟨rfl, rfl⟩)
            | (go_at_call 45; refine (M1 _).mono ?_; rintro e w' ⟨rfl, rfl⟩))
          go_ret2
          exact ⟨by rw [HE1.out, HN1.out]; rfl, hb.alloc hb.size _⟩
        | true =>
        cases e1 : money x.c with
        | false =>
          have HE1 := HNo (by rw [HOK, e0, e1]; rfl)
          have HN1 : Hid (meaN xs rs = 0) := by unfold Hid meaN; rw [HE1.out]; rfl
          rw [e0] at RO
          rw [e1] at M1
          clear HNo HOK HTa HO e0 e1
          go_wp2_with (first
            | (go_at_call 44; refine (RO _).mono ?_; rintro e w' ⟨rfl, rfl⟩)
            | (go_at_call 45; refine (M1 _).mono ?_; rintro e w' ⟨rfl, rfl⟩))
          go_ret2
          exact ⟨by rw [HE1.out, HN1.out]; rfl, hb.alloc hb.size _⟩
        | true =>
        have hf : ok = true := by rw [HOK, e0, e1]; rfl
        rw [e0] at RO
        rw [e1] at M1
        rw [hf] at HTa
        clear HNo HOK e0 e1 hf
        go_wp2_with (first
          | (go_at_call 44; refine (RO _).mono ?_; rintro e w' ⟨rfl, rfl⟩)
          | (go_at_call 45; refine (M1 _).mono ?_; rintro e w' ⟨rfl, rfl⟩))
        obtain ⟨W, hW⟩ : ∃ W : World, W = wr.alloc (.cells #[.int .i64 x.a, .int .i64 x.b, .int .i64 x.c] 40) := ⟨_, rfl⟩
        have q0 : W.cell? ⟨wr.heap.size, 0, none⟩ = some (.int .i64 x.a) := by rw [hW]; exact cell_new rfl
        have q1 : W.cell? ⟨wr.heap.size, 1, none⟩ = some (.int .i64 x.b) := by rw [hW]; exact cell_new rfl
        have q2 : W.cell? ⟨wr.heap.size, 2, none⟩ = some (.int .i64 x.c) := by rw [hW]; exact cell_new rfl
        have BW : Below wr.heap.size wr W := by rw [hW]; exact (Below.refl _ _).alloc (Nat.le_refl _) _
        rw [← hW]
        clear hW
        replace d1 := (BW.cell (World.block_lt_of_cell? _ _ d1)).trans d1
        have bW := hb.trans (BW.mono hb.size)
        go_quiet ((go_at_call 46; (first | exact quiet_one (HO _) | exact quiet_more (HO _))))
        go_wp2
        go_roundw
        case rel => exact ⟨j + 1, M + v1, by omega, by go_num, by go_num, HTa, HTm.symm, (by repeat (first | (with_reducible exact bW) | (with_reducible apply Below.drew) | (with_reducible apply Below.drN)))⟩
        case measure => simp [intOf]; omega
      · obtain rfl : j = xs.length := by omega
        rw [List.take_length, List.take_of_length_le (Nat.le_of_eq L1.out)] at ha hM
        have M1 := fun W => money_calls (-M) W
        have HE2 : Hid (meaE xs rs = if money (-M) = false then 6 else 0) := by unfold Hid; rw [HE.out, ha.out, ← hM.out]; rfl
        cases e1 : money (-M) with
        | false =>
          have HE1 : Hid (meaE xs rs = 6) := by unfold Hid; rw [HE2.out, e1]; rfl
          have HN1 : Hid (meaN xs rs = 0) := by unfold Hid meaN; rw [HE1.out]; rfl
          rw [e1] at M1
          clear e1 HE2
          go_wp2_with (go_at_call 45; refine (M1 _).mono ?_; rintro e w' ⟨rfl, rfl⟩)
          go_ret2
          exact ⟨by rw [HE1.out, HN1.out]; rfl, hb⟩
        | true =>
          have HE1 : Hid (meaE xs rs = 0) := by unfold Hid; rw [HE2.out, e1]; rfl
          have HN1 : Hid (meaN xs rs = -M) := by unfold Hid meaN; rw [HE1.out, if_pos rfl, ← hM.out]
          rw [e1] at M1
          clear e1 HE2
          go_wp2_with (go_at_call 45; refine (M1 _).mono ?_; rintro e w' ⟨rfl, rfl⟩)
          go_ret2
          exact ⟨by rw [HE1.out, HN1.out]; rfl, hb⟩
  · have HE : Hid (meaE xs rs = 1) := by unfold Hid meaE; rw [if_pos (by omega)]
    have HN : Hid (meaN xs rs = 0) := by unfold Hid meaN; rw [HE.out]; rfl
    have t1 : ((rs.length : Int) != (xs.length : Int)) = true := by simp; omega
    clear hlen
    go_wp2
    go_ret2
    exact ⟨by rw [HE.out, HN.out]; rfl, Below.refl _ _⟩
end Go.Proofs.Ythcapomobidnbaa
end
section
/- The walks of play.Rate, law17.rates. -/
namespace Go.Sl
open Go Go.RowKit
def rateTab : List Int := [250000, 300000, 190000, 0, 1000000, 333333, 500000, 1, 125000, 999999]
def rateOf (n : Int) : Int := if n.tmod 29 = 28 then n else rateTab.getD (within n 10).toNat 0
def rateCells : Array Value := #[.int .i64 250000, .int .i64 300000, .int .i64 190000, .int .i64 0, .int .i64 1000000, .int .i64 333333, .int .i64 500000, .int .i64 1, .int .i64 125000, .int .i64 999999]
theorem rateCells_get : ∀ k : Nat, k < 10 → rateCells[k]? = some (.int .i64 (rateTab.getD k 0))
  | 0, _ => rfl | 1, _ => rfl | 2, _ => rfl | 3, _ => rfl | 4, _ => rfl | 5, _ => rfl | 6, _ => rfl | 7, _ => rfl | 8, _ => rfl | 9, _ => rfl
  | k + 10, h => by omega
def kAt (l : List Int) (i : Nat) : Int := match l[i]? with | some z => z | none => 3 * i
def ratesOf (l : List Int) : Nat → List Int
  | 0 => []
  | n + 1 => ratesOf l n ++ [rateOf (kAt l n)]
theorem ratesOf_len (l : List Int) : ∀ n, (ratesOf l n).length = n
  | 0 => rfl
  | n + 1 => by simp [ratesOf, ratesOf_len l n]
end Go.Sl
namespace Go.Proofs.Ythcapomobidnbaa
open Go.RowKit Go.Sl
set_option maxHeartbeats 1000000
set_option maxRecDepth 100000
theorem info_int : Info Try.prog 3 (.int .i64 0) 1 8 := by unfold Info; kernel_rfl
theorem playRate_calls (n : Int) (w : World) : Calls Try.prog 47 #[.int .i64 n] w fun e w' => e = .returned (.int .i64 (rateOf n)) ∧ Below w.heap.size w w' := by
  by_cases h : n.tmod 29 = 28
  · have HR : Hid (rateOf n = n) := by unfold Hid rateOf; rw [if_pos h]
    have t1 : (n.tmod 29 == 28) = true := by simpa using h
    clear h
    go_enter Try.func47, Try.ntmps47
    go_wp2
    go_ret
    exact ⟨by rw [HR.out]; rfl, Below.refl _ _⟩
  · have h1 := within_lo n (n := 10) (by omega)
    have h2 := within_hi n (n := 10) (by omega)
    obtain ⟨k, hk⟩ : ∃ k : Nat, within n 10 = (k : Int) := ⟨(within n 10).toNat, by omega⟩
    have HR : Hid (rateOf n = rateTab.getD k 0) := by unfold Hid rateOf; rw [if_neg h, hk]; rfl
    have hk10 : k < 10 := by omega
    have t1 : (n.tmod 29 == 28) = false := by simpa using h
    have WC := fun W => within_calls n 10 W (by omega) (by omega)
    rw [hk] at WC
    have hc : (w.alloc (.cells rateCells 3)).cell? ⟨w.heap.size, k, none⟩ = some (.int .i64 (rateTab.getD k 0)) := by rw [cell_new rfl]; exact rateCells_get k hk10
    unfold rateCells at hc
    generalize rateTab.getD k 0 = v at *
    have i1 : (0 : Int) ≤ (k : Int) := by omega
    have i2 : (k : Int) < 10 := by omega
    clear h h1 h2 hk
    go_enter Try.func47, Try.ntmps47
    go_wp2_with fail
    refine (WC _).mono ?_
    rintro e w' ⟨rfl, rfl⟩
    go_wp2
    go_ret
    exact ⟨by rw [HR.out]; rfl, (by repeat (first | exact Below.refl _ _ | apply Below.drew | refine Below.alloc ?_ (by simp) _))⟩
theorem rates17_calls (A : Option Addr) (ca : Nat) (zs : List Int) (n : Nat) (hn : n ≤ 100) (h : Hp) (w : World) (hs : h.sub w) (sx : Sl kInt h A ca zs) :
    Calls Try.prog 29 #[.slice A zs.length ca, .int .i64 n] w fun e w' => ∃ C cap h', e = .returned (.slice C n cap) ∧ Ow kInt h' C cap (ratesOf zs n) ∧ Upd Hp.none h' w w' := by
  have m1 := sx.small
  go_enter Try.func29, Try.ntmps29
  go_wp2
  go_loopw [5, 6, 7] (fun v i k0 wr => ∃ (j cap : Nat) (C : Option Addr) (h' : Hp), j ≤ n ∧ i = .int .i64 j ∧ v = .slice C j cap ∧ Ow kInt h' C cap (ratesOf zs j) ∧ Env w wr [h']) (fun _ i _ _ => n - (intOf i).toNat)
  case atStart => exact ⟨0, 0, none, Hp.none, by omega, rfl, rfl, Ow.none _ _, by simpa using (Env.start w).new (Upd.of_below (Below.refl _ _))⟩
  case round =>
    obtain ⟨j, cap, C, h', hj, rfl, rfl, ho, E⟩ := hrel
    by_cases hlt : j < n
    · have i1 : (0 : Int) ≤ (j : Int) := by omega
      have i2 : (j : Int) < (n : Int) := by omega
      have i3 : (j : Int) < 100 := by omega
      have HT : Hid (ratesOf zs (j + 1) = ratesOf zs j ++ [rateOf (kAt zs j)]) := rfl
      have HL := Lib.hid (ratesOf_len zs j)
      generalize ratesOf zs j = L at *
      have PR := fun W => playRate_calls (kAt zs j) W
      by_cases hz : j < zs.length
      · obtain ⟨z, hzz⟩ := some_of_lt hz
        obtain ⟨b1, o1, rfl, c1⟩ := sx.int (hs.of_below E.low) hzz
        have hk : kAt zs j = z := by unfold kAt; rw [hzz.out]
        have i4 : (j : Int) < (zs.length : Int) := by omega
        rw [hk] at PR HT
        generalize rateOf z = v at *
        clear hk
        go_wp2_with fail
        refine (PR _).mono ?_
        rintro e w1 ⟨rfl, b1⟩
        have E1 := E.below b1
        go_wp2_with (at_builtin; refine wpList_eapp 0 v Try.underlying22 info_int (by repeat (first | (with_reducible exact E1) | (with_reducible apply Env.drew) | (with_reducible apply Env.drewN) | (with_reducible apply Env.alloc'))) (by rfl) ho j HL.out (by rfl) (by rfl) rfl 1 (by rfl) (by rfl) (heap_new_at (by simp)) (by rfl) (by omega) (by omega) ?_; intro C2 cap2 w2 h2 o2 E2)
        simp at E2
        go_roundw
        case rel => exact ⟨j + 1, cap2, C2, h2, by omega, by go_num, rfl, by rw [HT.out]; exact o2, E2⟩
        case measure => simp [intOf]; omega
      · have hk : kAt zs j = 3 * j := by unfold kAt; rw [List.getElem?_eq_none (by omega)]
        rw [hk] at PR HT
        generalize rateOf (3 * (j : Int)) = v at *
        clear hk
        go_wp2_with fail
        refine (PR _).mono ?_
        rintro e w1 ⟨rfl, b1⟩
        have E1 := E.below b1
        go_wp2_with (at_builtin; refine wpList_eapp 0 v Try.underlying22 info_int (by repeat (first | (with_reducible exact E1) | (with_reducible apply Env.drew) | (with_reducible apply Env.drewN) | (with_reducible apply Env.alloc'))) (by rfl) ho j HL.out (by rfl) (by rfl) rfl 1 (by rfl) (by rfl) (heap_new_at (by simp)) (by rfl) (by omega) (by omega) ?_; intro C2 cap2 w2 h2 o2 E2)
        simp at E2
        go_roundw
        case rel => exact ⟨j + 1, cap2, C2, h2, by omega, by go_num, rfl, by rw [HT.out]; exact o2, E2⟩
        case measure => simp [intOf]; omega
    · obtain rfl : j = n := by omega
      go_wp2
      go_ret
      exact ⟨C, cap, h', rfl, ho, ⟨E.low.os, E.low.tape, E.low.output, E.low.size, fun q hq _ => E.low.block q hq, E.sub 0 rfl, fun q hq => .inr (E.fr h' (by simp) q hq)⟩⟩
theorem Rol.rates {w0 w : World} {l : List Hp} (E : Env w0 w l) {A : Option Addr} {ca : Nat} {zs : List Int} {h : Hp} (sx : Sl kInt h A ca zs) (hs : h.sub w) (n : Nat) (hn : n ≤ 100) (m : Int) (hm : (n : Int) = m) {q : List Int} (hq : ratesOf zs n = q) :
    Calls Try.prog 29 #[.slice A zs.length ca, .int .i64 m] w fun e w' => ∃ C cap h', e = .returned (.slice C n cap) ∧ Ow kInt h' C cap q ∧ Env w0 w' (l ++ [h']) := by
  subst hq
  subst hm
  exact (rates17_calls A ca zs n hn h w hs sx).mono fun _ _ ⟨C, cap, h', he, ho, u⟩ => ⟨C, cap, h', he, ho, E.new u⟩
end Go.Proofs.Ythcapomobidnbaa
end
section
/- What the type table says of remeasure.Change. -/
namespace Go.Proofs.Ythcapomobidnbaa
open Go.RowKit Go.Sl
set_option maxHeartbeats 1000000
set_option maxRecDepth 100000
theorem info_chg : Info Try.prog 52 (.agg #[.int .i64 0, .int .i64 0]) 2 16 := by unfold Info; kernel_rfl
end Go.Proofs.Ythcapomobidnbaa
end
section
/- '==' and '!=' of remeasure.Change. -/
namespace Go.Proofs.Ythcapomobidnbaa
open Go.RowKit Go.Sl
set_option maxHeartbeats 1000000
set_option maxRecDepth 100000
theorem equalIn_chg (d : Nat) (x0 y0 : Int) (x1 y1 : Int) (w : World) : (Op.equalIn (d + 2) 52 (.agg #[.int .i64 x0, .int .i64 x1]) (.agg #[.int .i64 y0, .int .i64 y1])).run Try.prog w = .ok (x0 == y0 && (x1 == y1 && (true))) w := by
  refine equalIn_struct (d := d + 1) Try.underlying52 (by kernel_rfl) ?_
  refine eqFields_cons (by rfl) (by go_simp; rfl) (by go_simp; rfl) (by go_simp) ?_
  refine eqFields_cons (by rfl) (by go_simp; rfl) (by go_simp; rfl) (by go_simp) ?_
  exact eqFields_nil
theorem eqc_chg (x y : SItem) : (x.kind == y.kind && (x.amt == y.amt && (true))) = decide (x = y) := by
  rw [Bool.eq_iff_iff]; cases x; cases y; simp
theorem ne_chg (x y : SItem) (w : World) : (binOp .neq 52 (.agg #[.int .i64 x.kind, .int .i64 x.amt]) (.agg #[.int .i64 y.kind, .int .i64 y.amt])).run Try.prog w = .ok (.bool (neB x y)) w := by
  have h := equalIn_chg 9998 x.kind y.kind x.amt y.amt w
  simp only [Nat.reduceAdd] at h
  rw [neq_struct h, eqc_chg]; rfl
theorem eq_chg (x y : SItem) (w : World) : (binOp .eql 52 (.agg #[.int .i64 x.kind, .int .i64 x.amt]) (.agg #[.int .i64 y.kind, .int .i64 y.amt])).run Try.prog w = .ok (.bool (eqB x y)) w := by
  have h := equalIn_chg 9998 x.kind y.kind x.amt y.amt w
  simp only [Nat.reduceAdd] at h
  rw [eql_struct h, eqc_chg]; rfl
end Go.Proofs.Ythcapomobidnbaa
end
section
/- The calls of chapter 17, in a body's own memory; law17.wakes. -/
namespace Go.Proofs.Ythcapomobidnbaa
open Go.RowKit Go.Sl
set_option maxHeartbeats 1000000
set_option maxRecDepth 100000
section
variable {w0 w : World} {l : List Hp} {A B D F : Option Addr} {ca cb cd cf : Nat} {xs ys : List STri} {os ns : List Int} {h k p q : Hp}
theorem Rem.temp (E : Env w0 w l) (sx : Sl kTri h A ca xs) (hs : h.sub w) (sy : Sl kTri k B cb ys) (ks : k.sub w) (so : Sl kInt p D cd os) (ps : p.sub w) (sn : Sl kInt q F cf ns) (qs : q.sub w) (hx : xs.length ≤ 500) (hy : ys.length ≤ 500)
    (n1 n2 n3 n4 : Nat) (e1 : xs.length = n1) (e2 : ys.length = n2) (e3 : os.length = n3) (e4 : ns.length = n4) {rows : List SWay} (hr : fwd xs ys = rows) {M R Er : Int} (hM : remMo rows os ns = M) (hR : remRa rows os ns = R) (hE : remE rows os ns = Er) :
    Calls Try.prog 26 #[.slice A n1 ca, .slice B n2 cb, .slice D n3 cd, .slice F n4 cf] w fun e w' => e = .returned (.tuple #[.agg #[.int .i64 M, .int .i64 R], .int .i64 Er]) ∧ Env w0 w' l := by
  subst e1 e2 e3 e4 hr hM hR hE
  exact (remTemp_calls A B D F ca cb cd cf xs ys os ns h k p q w hs ks ps qs sx sy so sn hx hy).mono fun _ _ ⟨he, b⟩ => ⟨he, E.below b⟩
theorem Rem.ref (E : Env w0 w l) (sx : Sl kTri h A ca xs) (hs : h.sub w) (sy : Sl kTri k B cb ys) (ks : k.sub w) (so : Sl kInt p D cd os) (ps : p.sub w) (sn : Sl kInt q F cf ns) (qs : q.sub w)
    (n1 n2 n3 n4 : Nat) (e1 : xs.length = n1) (e2 : ys.length = n2) (e3 : os.length = n3) (e4 : ns.length = n4) {rows : List SWay} (hr : refFwd xs ys = rows) {M R Er : Int} (hM : remMo rows os ns = M) (hR : remRa rows os ns = R) (hE : remE rows os ns = Er) :
    Calls Try.prog 31 #[.slice A n1 ca, .slice B n2 cb, .slice D n3 cd, .slice F n4 cf] w fun e w' => e = .returned (.tuple #[.agg #[.int .i64 M, .int .i64 R], .int .i64 Er]) ∧ Env w0 w' l := by
  subst e1 e2 e3 e4 hr hM hR hE
  exact (refRem_calls A B D F ca cb cd cf xs ys os ns h k p q w hs ks ps qs sx sy so sn).mono fun _ _ ⟨he, b⟩ => ⟨he, E.below b⟩
theorem Rem.mea (E : Env w0 w l) (sx : Sl kTri h A ca xs) (hs : h.sub w) (so : Sl kInt p D cd os) (ps : p.sub w) (hx : xs.length ≤ 500)
    (n1 n2 : Nat) (e1 : xs.length = n1) (e2 : os.length = n2) {N Er : Int} (hN : meaN xs os = N) (hE : meaE xs os = Er) :
    Calls Try.prog 32 #[.slice A n1 ca, .slice D n2 cd] w fun e w' => e = .returned (.tuple #[.int .i64 N, .int .i64 Er]) ∧ Env w0 w' l := by
  subst e1 e2 hN hE
  exact (meaTemp_calls A D ca cd xs os h p w hs ps sx so (by omega)).mono fun _ _ ⟨he, b⟩ => ⟨he, E.below b⟩
theorem Rem.total (E : Env w0 w l) (m r : Int) {q : Int} (hq : wrap64 (m + r) = q) :
    Calls Try.prog 28 #[.agg #[.int .i64 m, .int .i64 r]] w fun e w' => e = .returned (.int .i64 q) ∧ Env w0 w' l := by
  subst hq
  exact (remTotal_calls m r w).mono fun _ _ ⟨he, b⟩ => ⟨he, E.below b⟩
end
theorem wakes17 (w : World) : Calls Try.prog 27 #[] w fun e w' => e = .returned (.bool true) ∧ Below w.heap.size w w' := by
  have H0 : Hid (fwd [⟨1, 5, 100⟩] [⟨1, 5, 100⟩] = [⟨1, 5, 100, 0, 100⟩]) := by unfold Hid; simp [fwd, fwdRaw, fO, fC, ups, setO, setC, fM, isort, put, wkey, ordPair, wrap64]
  have H1 : Hid (remE [⟨1, 5, 100, 0, 100⟩] [250000] [300000] = 0) := by unfold Hid; decide
  have H2 : Hid (remMo [⟨1, 5, 100, 0, 100⟩] [250000] [300000] = 0) := by unfold Hid; decide
  have H3 : Hid (remRa [⟨1, 5, 100, 0, 100⟩] [250000] [300000] = 5) := by unfold Hid; decide
  have E3 := (((Env.start w).alloc (.cells #[.int .i64 1, .int .i64 5, .int .i64 100] 40)).alloc (.cells #[.int .i64 250000] 3)).alloc (.cells #[.int .i64 300000] 3)
  simp at E3
  go_enter Try.func27, Try.ntmps27
  go_wp2_with fail
  refine (Rem.temp E3 (xs := [⟨1, 5, 100⟩]) (ys := [⟨1, 5, 100⟩]) (os := [250000]) (ns := [300000]) (Sl.lit (Hp.one_self _ _) (by unfold maxLen; simp)) (E3.sub 0 rfl) (Sl.lit (Hp.one_self _ _) (by unfold maxLen; simp)) (E3.sub 0 rfl) (Sl.lit (Hp.one_self _ _) (by unfold maxLen; simp)) (E3.sub 1 rfl) (Sl.lit (Hp.one_self _ _) (by unfold maxLen; simp)) (E3.sub 2 rfl) (by simp) (by simp) 1 1 1 1 rfl rfl rfl rfl H0.out H2.out H3.out H1.out).mono ?_
  rintro e w4 ⟨rfl, E4⟩
  go_wp2
  go_ret
  exact ⟨rfl, (Env.alloc' E4 _).low⟩
end Go.Proofs.Ythcapomobidnbaa
end
section
/- Plain facts about remeasuring. -/
namespace Go.Sl
open Go Go.RowKit
theorem ofVal_zero (r : Int) : ofVal 0 r = 0 := by
  have h := ofVal_neg 0 r
  simp at h; omega
theorem remE_ok {rows : List SWay} {os ns : List Int} (h1 : os.length = rows.length) (h2 : ns.length = rows.length) (ha : remAll rows os ns = true) (hm : money (sumM rows ns) = true) (hr : money (sumR rows os ns) = true) :
    remE rows os ns = 0 ∧ remMo rows os ns = sumM rows ns ∧ remRa rows os ns = sumR rows os ns := by
  have h : remE rows os ns = 0 := by unfold remE; rw [if_neg (by omega), ha, hm, hr]; rfl
  exact ⟨h, by unfold remMo; rw [if_pos h], by unfold remRa; rw [if_pos h]⟩
theorem remE_zero {rows : List SWay} {os ns : List Int} (h : remE rows os ns = 0) : os.length = rows.length ∧ ns.length = rows.length := by
  unfold remE at h
  split at h
  · cases h
  · rename_i hn; omega
theorem remAll_of : ∀ {rows : List SWay} {os ns : List Int}, (∀ r ∈ rows, money r.opn = true ∧ money r.clo = true) → (∀ o ∈ os, rightRate o = true) → (∀ n ∈ ns, rightRate n = true) → remAll rows os ns = true
  | r :: rows, o :: os, n :: ns, h1, h2, h3 => by
    have a := h1 r (by simp)
    have b := h2 o (by simp)
    have c := h3 n (by simp)
    have ih := remAll_of (rows := rows) (os := os) (ns := ns) (fun x hx => h1 x (by simp [hx])) (fun x hx => h2 x (by simp [hx])) (fun x hx => h3 x (by simp [hx]))
    simp [remAll, remOk, a, b, c, ih]
  | [], _, _, _, _, _ => by simp [remAll]
  | _ :: _, [], _, _, _, _ => by simp [remAll]
  | _ :: _, _ :: _, [], _, _, _ => by simp [remAll]
/-- All closing amounts by rates; all opening ones. -/
def sumCl : List SWay → List Int → Int
  | r :: rows, n :: ns => ofVal r.clo n + sumCl rows ns
  | _, _ => 0
def sumOp : List SWay → List Int → Int
  | r :: rows, n :: ns => ofVal r.opn n + sumOp rows ns
  | _, _ => 0
theorem sumM_eq : ∀ (rows : List SWay) (ns : List Int), sumM rows ns = sumCl rows ns - sumOp rows ns
  | r :: rows, n :: ns => by simp only [sumM, sumCl, sumOp, sumM_eq rows ns, remM]; omega
  | [], _ => by simp [sumM, sumCl, sumOp]
  | _ :: _, [] => by simp [sumM, sumCl, sumOp]
theorem sumR_eq : ∀ (rows : List SWay) (os ns : List Int), os.length = rows.length → ns.length = rows.length → sumR rows os ns = sumOp rows ns - sumOp rows os
  | r :: rows, o :: os, n :: ns, h1, h2 => by simp only [sumR, sumOp, sumR_eq rows os ns (by simpa using h1) (by simpa using h2), remR]; omega
  | [], _, _, _, _ => by simp [sumR, sumOp]
  | _ :: _, [], _, h, _ => by simp at h
  | _ :: _, _ :: _, [], _, h => by simp at h
/-- The rates of those whose opening is not 0. -/
def oxOf : List SWay → List Int → List Int
  | r :: rows, o :: os => if r.opn = 0 then oxOf rows os else o :: oxOf rows os
  | _, _ => []
def wyOf : List SWay → List Int → List Int
  | r :: rows, o :: os => if r.clo = 0 then wyOf rows os else o :: wyOf rows os
  | _, _ => []
theorem oxOf_snoc {r : SWay} {o : Int} : ∀ {rows : List SWay} {os : List Int}, os.length = rows.length → oxOf (rows ++ [r]) (os ++ [o]) = oxOf rows os ++ (if r.opn = 0 then [] else [o])
  | [], [], _ => by simp [oxOf]
  | [], _ :: _, h => by simp at h
  | _ :: _, [], h => by simp at h
  | x :: rows, y :: os, h => by
    have := oxOf_snoc (r := r) (o := o) (rows := rows) (os := os) (by simpa using h)
    simp only [List.cons_append, oxOf, this]
    split <;> simp
theorem wyOf_snoc {r : SWay} {o : Int} : ∀ {rows : List SWay} {os : List Int}, os.length = rows.length → wyOf (rows ++ [r]) (os ++ [o]) = wyOf rows os ++ (if r.clo = 0 then [] else [o])
  | [], [], _ => by simp [wyOf]
  | [], _ :: _, h => by simp at h
  | _ :: _, [], h => by simp at h
  | x :: rows, y :: os, h => by
    have := wyOf_snoc (r := r) (o := o) (rows := rows) (os := os) (by simpa using h)
    simp only [List.cons_append, wyOf, this]
    split <;> simp
theorem meaS_opn : ∀ (rows : List SWay) (os : List Int), os.length = rows.length → meaS ((rows.filter fun r => !decide (r.opn = 0)).map opnB) (oxOf rows os) = sumOp rows os
  | [], _, _ => by simp [meaS, sumOp]
  | _ :: _, [], h => by simp at h
  | r :: rows, o :: os, h => by
    have ih := meaS_opn rows os (by simpa using h)
    by_cases h0 : r.opn = 0
    · simp [oxOf, sumOp, h0, ofVal_zero, ih]
    · simp only [List.filter_cons, h0, decide_false, Bool.not_false, if_true, List.map_cons, oxOf, if_false, meaS, sumOp, ih]; rfl
theorem meaS_clo : ∀ (rows : List SWay) (os : List Int), os.length = rows.length → meaS ((rows.filter fun r => !decide (r.clo = 0)).map cloB) (wyOf rows os) = sumCl rows os
  | [], _, _ => by simp [meaS, sumCl]
  | _ :: _, [], h => by simp at h
  | r :: rows, o :: os, h => by
    have ih := meaS_clo rows os (by simpa using h)
    by_cases h0 : r.clo = 0
    · simp [wyOf, sumCl, h0, ofVal_zero, ih]
    · simp only [List.filter_cons, h0, decide_false, Bool.not_false, if_true, List.map_cons, wyOf, if_false, meaS, sumCl, ih]; rfl
theorem meaN_zero {bs : List STri} {rs : List Int} (h : meaE bs rs = 0) : meaN bs rs = -meaS bs rs := by unfold meaN; rw [if_pos h]
theorem meaN_bd (bs : List STri) (rs : List Int) : -100000000000 ≤ meaN bs rs ∧ meaN bs rs ≤ 100000000000 := by
  unfold meaN
  split
  · rename_i h
    unfold meaE at h
    split at h
    · cases h
    · split at h
      · cases h
      · split at h
        · cases h
        · rename_i hm
          have : money (-meaS bs rs) = true := by simpa using hm
          simpa [money] using this
  · omega
theorem remMo_zero {rows : List SWay} {os ns : List Int} (h : remE rows os ns = 0) : remMo rows os ns = sumM rows ns ∧ remRa rows os ns = sumR rows os ns := ⟨by unfold remMo; rw [if_pos h], by unfold remRa; rw [if_pos h]⟩
/-- From itself to itself. -/
theorem sum_self : ∀ {rows : List SWay}, (∀ r ∈ rows, r.opn = r.clo) → ∀ ns : List Int, sumCl rows ns = sumOp rows ns
  | [], _, _ => by simp [sumCl, sumOp]
  | _ :: _, _, [] => by simp [sumCl, sumOp]
  | r :: rows, h, n :: ns => by
    have := sum_self (rows := rows) (fun x hx => h x (by simp [hx])) ns
    simp [sumCl, sumOp, this, h r (by simp)]
theorem self_rows {o : List STri} : ∀ r ∈ refFwd o o, r.opn = r.clo := fun r hr => by
  obtain ⟨_, h1, h2, _⟩ := row_of hr
  rw [h1, h2]
theorem sumOp_none : ∀ {rows : List SWay}, (∀ r ∈ rows, r.opn = 0) → ∀ ns : List Int, sumOp rows ns = 0
  | [], _, _ => by simp [sumOp]
  | _ :: _, _, [] => by simp [sumOp]
  | r :: rows, h, n :: ns => by
    have := sumOp_none (rows := rows) (fun x hx => h x (by simp [hx])) ns
    simp [sumOp, this, h r (by simp), ofVal_zero]
theorem sumCl_none : ∀ {rows : List SWay}, (∀ r ∈ rows, r.clo = 0) → ∀ ns : List Int, sumCl rows ns = 0
  | [], _, _ => by simp [sumCl]
  | _ :: _, _, [] => by simp [sumCl]
  | r :: rows, h, n :: ns => by
    have := sumCl_none (rows := rows) (fun x hx => h x (by simp [hx])) ns
    simp [sumCl, this, h r (by simp), ofVal_zero]
theorem meaS_clos : ∀ (rows : List SWay) (ns : List Int), meaS (rows.map cloB) ns = sumCl rows ns
  | r :: rows, n :: ns => by
    have := meaS_clos rows ns
    simp only [List.map_cons, meaS, sumCl, this]; rfl
  | [], _ => by simp [meaS, sumCl]
  | _ :: _, [] => by simp [meaS, sumCl]
theorem meaS_opns : ∀ (rows : List SWay) (ns : List Int), meaS (rows.map opnB) ns = sumOp rows ns
  | r :: rows, n :: ns => by
    have := meaS_opns rows ns
    simp only [List.map_cons, meaS, sumOp, this]; rfl
  | [], _ => by simp [meaS, sumOp]
  | _ :: _, [] => by simp [meaS, sumOp]
theorem getB_nil (c y : Int) : getB [] c y = 0 := rfl
/-- From nothing. -/
theorem fresh_rows {o : List STri} : (∀ r ∈ refFwd [] o, r.opn = 0) ∧ ((refFwd [] o).filter fun r => !decide (r.clo = 0)) = refFwd [] o := by
  have key : ∀ r ∈ refFwd [] o, r.opn = 0 ∧ r.clo ≠ 0 := fun r hr => by
    obtain ⟨hne, h1, _⟩ := row_of hr
    rw [getB_nil] at h1
    exact ⟨h1, by rcases hne with h | h
                  · exact absurd h1 h
                  · exact h⟩
  exact ⟨fun r hr => (key r hr).1, List.filter_eq_self.2 fun r hr => by simpa using (key r hr).2⟩
/-- To nothing. -/
theorem gone_rows {o : List STri} : (∀ r ∈ refFwd o [], r.clo = 0) ∧ ((refFwd o []).filter fun r => !decide (r.opn = 0)) = refFwd o [] := by
  have key : ∀ r ∈ refFwd o [], r.clo = 0 ∧ r.opn ≠ 0 := fun r hr => by
    obtain ⟨hne, _, h1, _⟩ := row_of hr
    rw [getB_nil] at h1
    exact ⟨h1, by rcases hne with h | h
                  · exact h
                  · exact absurd h1 h⟩
  exact ⟨fun r hr => (key r hr).1, List.filter_eq_self.2 fun r hr => by simpa using (key r hr).2⟩
theorem row_money {o c : List STri} (go : GoodR o) (gc : GoodR c) : ∀ r ∈ refFwd o c, money r.opn = true ∧ money r.clo = true := fun r hr => by
  obtain ⟨h1, h2, _⟩ := row_good go gc hr
  exact ⟨by simp [money]; omega, by simp [money]; omega⟩
/-- RemeasureParts, plain. -/
theorem parts_still {o : List STri} {os ns : List Int} : remMo (refFwd o o) os ns = 0 := by
  unfold remMo; split
  · rw [sumM_eq, sum_self self_rows]; omega
  · rfl
theorem parts_same {o : List STri} (go : GoodR o) {os : List Int} (h : os.length = o.length) (hr : ∀ x ∈ os, rightRate x = true) : remE (refFwd o o) os os = 0 ∧ remMo (refFwd o o) os os = 0 ∧ remRa (refFwd o o) os os = 0 := by
  have hl : os.length = (refFwd o o).length := by rw [len_same go]; exact h
  have h1 : sumM (refFwd o o) os = 0 := by rw [sumM_eq, sum_self self_rows]; omega
  have h2 : sumR (refFwd o o) os os = 0 := by rw [sumR_eq _ _ _ hl hl]; omega
  have := remE_ok hl hl (remAll_of (row_money go go) hr hr) (by rw [h1]; decide) (by rw [h2]; decide)
  rw [h1, h2] at this; exact this
theorem parts_fresh {o : List STri} (go : GoodR o) {os ns : List Int} (he : remE (refFwd [] o) os ns = 0) (hm : meaE o ns = 0) : remRa (refFwd [] o) os ns = 0 ∧ remMo (refFwd [] o) os ns = -meaN o ns := by
  obtain ⟨l1, l2⟩ := remE_zero he
  obtain ⟨e1, e2⟩ := remMo_zero he
  have hc := rows_clo (o := []) go
  rw [fresh_rows.2] at hc
  refine ⟨?_, ?_⟩
  · rw [e2, sumR_eq _ _ _ l1 l2, sumOp_none fresh_rows.1, sumOp_none fresh_rows.1]; rfl
  · rw [e1, sumM_eq, sumOp_none fresh_rows.1, meaN_zero hm, ← meaS_clos, hc]; omega
theorem parts_gone {o : List STri} (go : GoodR o) {os : List Int} (he : remE (refFwd o []) os os = 0) (hm : meaE o os = 0) : remRa (refFwd o []) os os = 0 ∧ remMo (refFwd o []) os os = meaN o os := by
  obtain ⟨l1, _⟩ := remE_zero he
  obtain ⟨e1, e2⟩ := remMo_zero he
  have hc := rows_opn (c := []) go
  rw [gone_rows.2] at hc
  refine ⟨?_, ?_⟩
  · rw [e2, sumR_eq _ _ _ l1 l1]; omega
  · rw [e1, sumM_eq, sumCl_none gone_rows.1, meaN_zero hm, ← meaS_opns, hc]; omega
theorem fresh_ra {o : List STri} {os ns : List Int} : remRa (refFwd [] o) os ns = 0 := by
  unfold remRa; split
  · rename_i h
    obtain ⟨l1, l2⟩ := remE_zero h
    rw [sumR_eq _ _ _ l1 l2, sumOp_none fresh_rows.1, sumOp_none fresh_rows.1]; rfl
  · rfl
theorem gone_ra {o : List STri} {os : List Int} : remRa (refFwd o []) os os = 0 := by
  unfold remRa; split
  · rename_i h
    obtain ⟨l1, _⟩ := remE_zero h
    rw [sumR_eq _ _ _ l1 l1]; omega
  · rfl
/-- RemeasureTotal, plain. -/
theorem total_plain {x y : List STri} (gx : GoodR x) (gy : GoodR y) {os ns : List Int} (he : remE (refFwd x y) os ns = 0) (hp : meaE x (oxOf (refFwd x y) os) = 0) (hq : meaE y (wyOf (refFwd x y) ns) = 0) :
    remMo (refFwd x y) os ns + remRa (refFwd x y) os ns = meaN x (oxOf (refFwd x y) os) - meaN y (wyOf (refFwd x y) ns) := by
  obtain ⟨l1, l2⟩ := remE_zero he
  obtain ⟨e1, e2⟩ := remMo_zero he
  have h1 := meaS_opn (refFwd x y) os l1
  have h2 := meaS_clo (refFwd x y) ns l2
  rw [rows_opn gx] at h1
  rw [rows_clo gy] at h2
  rw [e1, e2, sumM_eq, sumR_eq _ _ _ l1 l2, meaN_zero hp, meaN_zero hq, h1, h2]; omega
end Go.Sl
end
section
/- make([]int, n). -/
namespace Go.Sl
open Go Go.RowKit
def madeInts (n : Nat) : Array Value := ((List.replicate n (0 : Int)).flatMap fun x => [Value.int .i64 x]).toArray
theorem madeInts_eq (n : Nat) : madeCells #[.int .i64 0] n = madeInts n := by
  apply Array.toList_inj.1
  rw [toList_madeCells_one]
  unfold madeInts
  induction n with
  | zero => rfl
  | succ n ih => simp only [List.replicate_succ, List.flatMap_cons]; rw [ih]; rfl
theorem Ow.made {h : Hp} {b : Nat} {t : TypeId} {n : Nat} (hb : h b = some (.cells (madeInts n) t (0, 0))) (hm : n ≤ maxLen) : Ow kInt h (some ⟨b, 0, .none⟩) n (List.replicate n 0) := by
  have h := Ow.lit (cells := fun x : Int => [Value.int .i64 x]) (size := 1) (pos := by decide) (hl := fun _ => rfl) (h1 := fun x u h => by simp at h; subst h; rfl) (xs := List.replicate n (0 : Int)) hb (by simpa using hm)
  rw [List.length_replicate] at h
  exact h
theorem Env.swap12 {w0 w : World} {a b c : Hp} (E : Env w0 w [a, b, c]) : Env w0 w [a, c, b] :=
  ⟨⟨E.own.1, fun k hk => E.own.2.1 k (by simp at hk ⊢; exact hk.symm), E.own.2.2.swap⟩, fun h hh => E.fr h (by simp at hh ⊢; rcases hh with h | h | h <;> simp [h]), E.low⟩
end Go.Sl
namespace Go.Proofs.Ythcapomobidnbaa
open Go.RowKit Go.Sl
set_option maxHeartbeats 1000000
set_option maxRecDepth 100000
theorem make_ints (n : Nat) (hn : n ≤ 1000000) (W : World) : (Instr.makeSlice 22 (.int .i64 (n : Int)) (.int .i64 (n : Int))).run Try.prog W = .ok (.slice (some ⟨W.heap.size, 0, none⟩) n n) (W.alloc (.cells (madeInts n) 3)) := by
  obtain ⟨i0, hi, hz0, hz1, hz2⟩ := info_parts info_int
  have h := run_make (P := Try.prog) W 22 3 i0 (.int .i64 0) Try.underlying22 hi hz0 .i64 .i64 n n (by omega) (Int.le_refl _) (by rw [hz2]; omega) (by omega)
  rw [hz1] at h
  simp only [Int.toNat_natCast] at h
  rw [show (Value.int .i64 0).cells = #[.int .i64 0] from rfl] at h
  rw [Nat.mul_one, madeInts_eq] at h
  exact h
end Go.Proofs.Ythcapomobidnbaa
end
