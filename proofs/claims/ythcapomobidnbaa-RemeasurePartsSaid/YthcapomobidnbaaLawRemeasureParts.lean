/- The law RemeasureParts: for every input it returns true, and its arguments read behind the call as before it. No conditions. -/
import Derived.Test.YthcapomobidnbaaPk6
import Derived.Deep.DeepCutAuto
import Derived.RegionTactic
section
/- The walk of law17.RemeasureParts. -/
namespace Go.Proofs.Ythcapomobidnbaa
open Go.RowKit Go.Sl
set_option maxHeartbeats 4000000
set_option maxRecDepth 100000
theorem remeasureParts_calls (A D F : Option Addr) (ca cd cf : Nat) (za zo zn : List Int) (h1 h3 h4 : Hp) (w : World) (hs1 : h1.sub w) (hs3 : h3.sub w) (hs4 : h4.sub w) (s1 : Sl kInt h1 A ca za) (s3 : Sl kInt h3 D cd zo) (s4 : Sl kInt h4 F cf zn)
    (w1 : ∀ n ∈ za, I64 n) :
    Calls Try.prog 10 #[.slice A za.length ca, .slice D zo.length cd, .slice F zn.length cf] w fun e w' => e = .returned (.bool true) ∧ Below w.heap.size w w' := by
  have E0 := Env.start w
  have m3 := s3.small
  have m4 := s4.small
  have RX := fun W l (E : Env w W l) => Rol.reg E s1 (hs1.of_below E.low) w1
  have gx := regOf_good za
  generalize regOf za = xs at *
  clear hs1 s1 w1
  have lx := gx.len
  have hmk := fun W => make_ints xs.length (by omega) W
  go_enter Try.func10, Try.ntmps10
  go_wp2_with fail
  refine (RX _ _ E0).mono ?_
  rintro e w1 ⟨hx, bx, rfl, px, E1⟩
  try simp at E1
  obtain ⟨AX, cx, kx, ox⟩ := px.regO (E1.sub 0 rfl)
  have E2 := E1.weak 0 rfl (Hp.del_le _ bx)
  simp only [List.set_cons_zero] at E2
  generalize hx.del bx = hx' at *
  clear px E1 RX
  go_upto_region 2 with fail
  go_cut [8, 9] (fun o n wx => ∃ (bo bn : Nat) (ho hn : Hp), o = .slice (some ⟨bo, 0, none⟩) xs.length xs.length ∧ n = .slice (some ⟨bn, 0, none⟩) xs.length xs.length ∧ Ow kInt ho (some ⟨bo, 0, none⟩) xs.length (List.replicate xs.length 0) ∧ Ow kInt hn (some ⟨bn, 0, none⟩) xs.length (List.replicate xs.length 0) ∧ Env w wx [hx', ho, hn])
  case first =>
    go_region
    all_goals
      go_wp2_with fail
      go_meet
      have E4 := (E2.alloc (.cells (madeInts xs.length) 3)).alloc (.cells (madeInts xs.length) 3)
      simp at E4
      first
        | exact ⟨_, _, _, _, rfl, rfl, Ow.made (Hp.one_self _ _) (by unfold maxLen; omega), Ow.made (Hp.one_self _ _) (by unfold maxLen; omega), E4.drew⟩
        | exact ⟨_, _, _, _, rfl, rfl, Ow.made (Hp.one_self _ _) (by unfold maxLen; omega), Ow.made (Hp.one_self _ _) (by unfold maxLen; omega), E4.swap12.drew⟩
  case rest =>
    obtain ⟨bo, bn, ho, hn, rfl, rfl, oo, on, E3⟩ := hcut
    have hR0 : ∀ m : Nat, ∀ x ∈ List.replicate m (0 : Int), rightRate x = true := fun m x hx => by rw [List.eq_of_mem_replicate hx]; rfl
    go_wp2
    go_loopw [10, 36] (fun i0 i wr => ∃ (j : Nat) (os ns : List Int) (ho hn : Hp), j ≤ xs.length ∧ i = .int .i64 j ∧ os.length = xs.length ∧ Hid (∀ x ∈ os, rightRate x = true) ∧ ns.length = xs.length ∧ Ow kInt ho (some ⟨bo, 0, none⟩) xs.length os ∧ Ow kInt hn (some ⟨bn, 0, none⟩) xs.length ns ∧ Env w wr [hx', ho, hn]) (fun _ i _ => xs.length - (intOf i).toNat)
    case atStart => exact ⟨0, _, _, ho, hn, by omega, rfl, by simp, hR0 _, by simp, oo, on, E3⟩
    case round =>
      clear oo on E3 hR0
      obtain ⟨j, os, ns, ho, hn, hj, rfl, l1, hr, l2, oo, on, E⟩ := hrel
      by_cases hlt : j < xs.length
      · obtain ⟨o, hoo⟩ := some_of_lt (show j < os.length by omega)
        obtain ⟨n, hnn⟩ := some_of_lt (show j < ns.length by omega)
        obtain ⟨b1, o1, e1, c1⟩ := oo.sl.int (E.sub 1 rfl) hoo
        cases e1
        obtain ⟨b2, o2, e2, c2⟩ := on.sl.int (E.sub 2 rfl) hnn
        cases e2
        have f1 := oo.cell_free (E.sub 1 rfl) (by omega)
        have f2 := on.cell_free (E.sub 2 rfl) (by omega)
        have i1 : (0 : Int) ≤ (j : Int) := by omega
        have i2 : (j : Int) < (xs.length : Int) := by omega
        have SO := fun (V : World) (qs : List Int) (k : Hp) (hn : Hp) (E : Env w V [hx', k, hn]) (ok : Ow kInt k (some ⟨bo, 0, none⟩) xs.length qs) (hl : qs.length = xs.length) (v : Int) =>
          (by
            obtain ⟨g, og, ug⟩ := Ow.set (x' := v) (v := .int .i64 v) (j := 0) ok (E.sub 1 rfl) (List.getElem?_eq_getElem (show j < qs.length by omega)) (by decide) rfl
            exact ⟨g, og, by simpa using E.upd 1 rfl ug⟩ : ∃ g, Ow kInt g (some ⟨bo, 0, none⟩) xs.length (qs.set j v) ∧ Env w (V.setCell ⟨bo, j, none⟩ (.int .i64 v)) [hx', g, hn])
        have SN := fun (V : World) (qs : List Int) (k : Hp) (ho : Hp) (E : Env w V [hx', ho, k]) (ok : Ow kInt k (some ⟨bn, 0, none⟩) xs.length qs) (hl : qs.length = xs.length) (v : Int) =>
          (by
            obtain ⟨g, og, ug⟩ := Ow.set (x' := v) (v := .int .i64 v) (j := 0) ok (E.sub 2 rfl) (List.getElem?_eq_getElem (show j < qs.length by omega)) (by decide) rfl
            exact ⟨g, og, by simpa using E.upd 2 rfl ug⟩ : ∃ g, Ow kInt g (some ⟨bn, 0, none⟩) xs.length (qs.set j v) ∧ Env w (V.setCell ⟨bn, j, none⟩ (.int .i64 v)) [hx', ho, g])
        have hset : ∀ (qs : List Int) (v : Int), (∀ x ∈ qs, rightRate x = true) → rightRate v = true → ∀ x ∈ qs.set j v, rightRate x = true := fun qs v h hv x hx => by
          rcases List.mem_or_eq_of_mem_set hx with hx | rfl
          · exact h x hx
          · exact hv
        obtain ⟨g1, og1, F1⟩ := SO wr os ho hn E oo l1 250000
        obtain ⟨g2, og2, F2⟩ := SN _ ns hn g1 F1 on l2 1000000
        have hr1 := Lib.hid (hset os 250000 hr.out rfl)
        have hb1 : bo < wr.heap.size := World.block_lt_of_cell? _ _ c1
        have hb2 : bn < wr.heap.size := World.block_lt_of_cell? _ _ c2
        have bne : bo ≠ bn := fun e => by
          obtain ⟨_, _, cur, T, e1, k1, _⟩ := oo.row _ rfl (by omega)
          obtain ⟨_, _, cur2, T2, e2, k2, _⟩ := on.row _ rfl (by omega)
          cases e1
          cases e2
          have := E.own.apart_of (i := 1) (j := 2) rfl rfl (by decide) bo (by simp [k1])
          rw [e] at this
          rw [this] at k2; cases k2
        have bne' := bne.symm
        have lo : w.heap.size ≤ bo := by
          obtain ⟨_, _, cur, T, e1, k1, _⟩ := oo.row _ rfl (by omega)
          cases e1
          exact E.fr ho (by simp) bo (by simp [k1])
        have ln : w.heap.size ≤ bn := by
          obtain ⟨_, _, cur, T, e1, k1, _⟩ := on.row _ rfl (by omega)
          cases e1
          exact E.fr hn (by simp) bn (by simp [k1])
        clear c1 c2
        have c1 : ∀ n, wr.frozen? ⟨bo, n, none⟩ = false := f1
        obtain ⟨_, _, e1, c1⟩ := oo.sl.int (E.sub 1 rfl) hoo
        cases e1
        obtain ⟨_, _, e2, c2⟩ := on.sl.int (E.sub 2 rfl) hnn
        cases e2
        rw [Nat.zero_add] at c1 c2
        by_cases h1 : j < zo.length
        · obtain ⟨z1, hz1⟩ := some_of_lt h1
          obtain ⟨d1, p1, rfl, y1⟩ := s3.int (hs3.of_below E.low) hz1
          obtain ⟨_, _, e3, y1'⟩ := s3.int hs3 hz1
          cases e3
          have dl1 : d1 < w.heap.size := World.block_lt_of_cell? _ _ y1'
          have dn1 : d1 ≠ bo := by omega
          have dn2 : d1 ≠ bn := by omega
          have dn1' := dn1.symm
          have dn2' := dn2.symm
          have i3 : (j : Int) < (zo.length : Int) := by omega
          have q1 := within_lo z1 (n := 1000001) (by omega)
          have q2 := within_hi z1 (n := 1000001) (by omega)
          have W1 := fun W => within_calls z1 1000001 W (by omega) (by omega)
          have hv1 : rightRate (within z1 1000001) = true := by simp [rightRate]; omega
          generalize within z1 1000001 = v1 at *
          obtain ⟨g3, og3, F3⟩ := SO _ (os.set j 250000) g1 g2 F2 og1 (by rw [List.length_set]; exact l1) v1
          have hr2 := Lib.hid (hset _ v1 hr1.out hv1)
          clear y1' dl1 q1 q2 hv1
          by_cases h2 : j < zn.length
          · obtain ⟨z2, hz2⟩ := some_of_lt h2
            obtain ⟨d2, p2, rfl, y2⟩ := s4.int (hs4.of_below E.low) hz2
            obtain ⟨_, _, e4, y2'⟩ := s4.int hs4 hz2
            cases e4
            have dl2 : d2 < w.heap.size := World.block_lt_of_cell? _ _ y2'
            have dn3 : d2 ≠ bo := by omega
            have dn4 : d2 ≠ bn := by omega
            have dn3' := dn3.symm
            have dn4' := dn4.symm
            have i4 : (j : Int) < (zn.length : Int) := by omega
            have W2 := fun W => within_calls z2 1000001 W (by omega) (by omega)
            generalize within z2 1000001 = v2 at *
            obtain ⟨g4, og4, F4⟩ := SN _ (ns.set j 1000000) g2 g3 F3 og2 (by rw [List.length_set]; exact l2) v2
            clear y2' dl2 SO SN hset
            have L1 : Hid (((os.set j 250000).set j v1).length = xs.length) := by rw [List.length_set, List.length_set]; exact l1
            have L2 : Hid (((ns.set j 1000000).set j v2).length = xs.length) := by unfold Hid; rw [List.length_set, List.length_set]; exact l2
            clear l1 l2
            go_wp2_with (first | (go_at_call 21; ((with_reducible refine (W1 _).mono ?_)); rintro e w' ⟨rfl, rfl⟩) | (go_at_call 21; ((with_reducible refine (W2 _).mono ?_)); rintro e w' ⟨rfl, rfl⟩))
            go_roundw
            case rel => exact ⟨j + 1, ((os.set j 250000).set j v1), ((ns.set j 1000000).set j v2), g3, g4, by omega, by go_num, L1.out, hr2, L2.out, og3, og4, F4⟩
            case measure => simp [intOf]; omega
          · clear SO SN hset
            have L1 : Hid (((os.set j 250000).set j v1).length = xs.length) := by rw [List.length_set, List.length_set]; exact l1
            have L2 : Hid ((ns.set j 1000000).length = xs.length) := by unfold Hid; rw [List.length_set]; exact l2
            clear l1 l2
            go_wp2_with (first | (go_at_call 21; ((with_reducible refine (W1 _).mono ?_)); rintro e w' ⟨rfl, rfl⟩))
            go_roundw
            case rel => exact ⟨j + 1, ((os.set j 250000).set j v1), (ns.set j 1000000), g3, g2, by omega, by go_num, L1.out, hr2, L2.out, og3, og2, F3⟩
            case measure => simp [intOf]; omega
        · skip
          by_cases h2 : j < zn.length
          · obtain ⟨z2, hz2⟩ := some_of_lt h2
            obtain ⟨d2, p2, rfl, y2⟩ := s4.int (hs4.of_below E.low) hz2
            obtain ⟨_, _, e4, y2'⟩ := s4.int hs4 hz2
            cases e4
            have dl2 : d2 < w.heap.size := World.block_lt_of_cell? _ _ y2'
            have dn3 : d2 ≠ bo := by omega
            have dn4 : d2 ≠ bn := by omega
            have dn3' := dn3.symm
            have dn4' := dn4.symm
            have i4 : (j : Int) < (zn.length : Int) := by omega
            have W2 := fun W => within_calls z2 1000001 W (by omega) (by omega)
            generalize within z2 1000001 = v2 at *
            obtain ⟨g4, og4, F4⟩ := SN _ (ns.set j 1000000) g2 g1 F2 og2 (by rw [List.length_set]; exact l2) v2
            clear y2' dl2 SO SN hset
            have L1 : Hid ((os.set j 250000).length = xs.length) := by rw [List.length_set]; exact l1
            have L2 : Hid (((ns.set j 1000000).set j v2).length = xs.length) := by unfold Hid; rw [List.length_set, List.length_set]; exact l2
            clear l1 l2
            go_wp2_with (first | (go_at_call 21; ((with_reducible refine (W2 _).mono ?_)); rintro e w' ⟨rfl, rfl⟩))
            go_roundw
            case rel => exact ⟨j + 1, (os.set j 250000), ((ns.set j 1000000).set j v2), g1, g4, by omega, by go_num, L1.out, hr1, L2.out, og1, og4, F4⟩
            case measure => simp [intOf]; omega
          · clear SO SN hset
            have L1 : Hid ((os.set j 250000).length = xs.length) := by rw [List.length_set]; exact l1
            have L2 : Hid ((ns.set j 1000000).length = xs.length) := by unfold Hid; rw [List.length_set]; exact l2
            clear l1 l2
            go_wp2_with (fail)
            go_roundw
            case rel => exact ⟨j + 1, (os.set j 250000), (ns.set j 1000000), g1, g2, by omega, by go_num, L1.out, hr1, L2.out, og1, og2, F2⟩
            case measure => simp [intOf]; omega
      · obtain rfl : j = xs.length := by omega
        have L1 := Lib.hid l1
        have L2 := Lib.hid l2
        clear hlt l1 l2
        have K1 : Hid (remMo (refFwd xs xs) os ns = 0) := parts_still
        have K2 := Lib.hid (parts_same gx L1.out hr.out)
        have K3 := fun h1 h2 => parts_fresh (os := os) (ns := ns) gx h1 h2
        have K4 := fun h1 h2 => parts_gone (os := os) gx h1 h2
        have K5 : Hid (remRa (refFwd [] xs) os ns = 0) := fresh_ra
        have K6 : Hid (remRa (refFwd xs []) os os = 0) := gone_ra
        have F1 := fwd_ref' gx.lo gx.lo
        have F3 := fwd_ref' LoR.nil gx.lo
        have F4 := fwd_ref' gx.lo LoR.nil
        generalize refFwd xs xs = r1 at *
        generalize refFwd [] xs = r3 at *
        generalize refFwd xs [] = r4 at *
        have C1 := fun (W : World) (l : List Hp) (E : Env w W l) (s1 : hx'.sub W) (s3 : ho.sub W) (s4 : hn.sub W) => Rem.temp E ox.sl s1 ox.sl s1 oo.sl s3 on.sl s4 (by omega) (by omega) _ _ _ _ rfl rfl L1.out L2.out F1 K1.out rfl rfl
        have C2 := fun (W : World) (l : List Hp) (E : Env w W l) (s1 : hx'.sub W) (s3 : ho.sub W) => Rem.temp E ox.sl s1 ox.sl s1 oo.sl s3 oo.sl s3 (by omega) (by omega) _ _ _ _ rfl rfl L1.out L1.out F1 K2.out.2.1 K2.out.2.2 K2.out.1
        have C3 := fun (W : World) (l : List Hp) (E : Env w W l) (s1 : hx'.sub W) (s3 : ho.sub W) (s4 : hn.sub W) => Rem.temp E (Sl.none kTri Hp.none) (Hp.none_sub _) ox.sl s1 oo.sl s3 on.sl s4 (by simp) (by omega) 0 _ _ _ rfl rfl L1.out L2.out F3 rfl K5.out rfl
        have C4 := fun (W : World) (l : List Hp) (E : Env w W l) (s1 : hx'.sub W) (s3 : ho.sub W) => Rem.temp E ox.sl s1 (Sl.none kTri Hp.none) (Hp.none_sub _) oo.sl s3 oo.sl s3 (by omega) (by simp) _ 0 _ _ rfl rfl L1.out L1.out F4 rfl K6.out rfl
        have C5 := fun (W : World) (l : List Hp) (E : Env w W l) (s1 : hx'.sub W) (s4 : hn.sub W) => Rem.mea E ox.sl s1 on.sl s4 (by omega) _ _ rfl L2.out rfl rfl
        have C6 := fun (W : World) (l : List Hp) (E : Env w W l) (s1 : hx'.sub W) (s3 : ho.sub W) => Rem.mea E ox.sl s1 oo.sl s3 (by omega) _ _ rfl L1.out rfl rfl
        obtain ⟨bn1, bn2⟩ := meaN_bd xs ns
        generalize remRa r1 os ns = R1 at *
        generalize remE r1 os ns = Q1 at *
        generalize remMo r3 os ns = M3 at *
        generalize remE r3 os ns = Q3 at *
        generalize remMo r4 os os = M4 at *
        generalize remE r4 os os = Q4 at *
        generalize meaN xs ns = N5 at *
        generalize meaE xs ns = Q5 at *
        generalize meaN xs os = N6 at *
        generalize meaE xs os = Q6 at *
        have HE2 := ne_chg ⟨0, 0⟩ ⟨0, 0⟩
        have HE3 := eq_chg ⟨0, 0⟩ ⟨0, 0⟩
        rw [neB_f rfl] at HE2
        rw [eqB_t rfl] at HE3
        dsimp only at HE2 HE3
        clear F1 F3 F4 K1 K2 K5 K6
        go_wp2_with fail
        refine (C1 _ _ E (E.sub 0 rfl) (E.sub 1 rfl) (E.sub 2 rfl)).mono ?_
        rintro e w4 ⟨rfl, E4⟩
        have E5 := E4.alloc (.cells #[.int .i64 0, .int .i64 R1] 52)
        simp at E5
        go_wp2_with fail
        refine (C2 _ _ E5 (E5.sub 0 rfl) (E5.sub 1 rfl)).mono ?_
        rintro e w6 ⟨rfl, E6⟩
        have E7 := E6.alloc (.cells #[.int .i64 0, .int .i64 0] 52)
        simp at E7
        go_wp2_with fail
        refine (C3 _ _ E7 (E7.sub 0 rfl) (E7.sub 1 rfl) (E7.sub 2 rfl)).mono ?_
        rintro e w8 ⟨rfl, E8⟩
        have E9 := E8.alloc (.cells #[.int .i64 M3, .int .i64 0] 52)
        simp at E9
        go_wp2_with fail
        refine (C4 _ _ E9 (E9.sub 0 rfl) (E9.sub 1 rfl)).mono ?_
        rintro e w10 ⟨rfl, E10⟩
        have E11 := E10.alloc (.cells #[.int .i64 M4, .int .i64 0] 52)
        simp at E11
        go_wp2_with fail
        refine (C5 _ _ E11 (E11.sub 0 rfl) (E11.sub 2 rfl)).mono ?_
        rintro e w12 ⟨rfl, E12⟩
        go_wp2_with fail
        refine (C6 _ _ E12 (E12.sub 0 rfl) (E12.sub 1 rfl)).mono ?_
        rintro e w14 ⟨rfl, E14⟩
        have k0 := E14.cell 3 rfl 0 rfl
        have k1 := E14.cell 3 rfl 1 rfl
        have k2 := E14.cell 4 rfl 0 rfl
        have k3 := E14.cell 4 rfl 1 rfl
        have k4 := E14.cell 5 rfl 0 rfl
        have k5 := E14.cell 5 rfl 1 rfl
        have k6 := E14.cell 6 rfl 0 rfl
        have k7 := E14.cell 6 rfl 1 rfl
        clear C1 C2 C3 C4 C5 C6
        have t1 : (Q1 != 0) = true ∨ (Q1 != 0) = false := by cases (Q1 != 0) <;> simp
        have t3 : (Q3 != 0) = true ∨ (Q3 != 0) = false ∧ ((Q5 != 0) = true ∨ (Q5 != 0) = false ∧ (M3 == -N5) = true) := by
          by_cases a : Q3 = 0
          · by_cases b : Q5 = 0
            · have := (K3 a b).2
              right; simp [a, b, this]
            · right; simp [a, b]
          · left; simpa using a
        have t4 : (Q4 != 0) = true ∨ (Q4 != 0) = false ∧ ((Q6 != 0) = true ∨ (Q6 != 0) = false ∧ (M4 == N6) = true) := by
          by_cases a : Q4 = 0
          · by_cases b : Q6 = 0
            · have := (K4 a b).2
              right; simp [a, b, this]
            · right; simp [a, b]
          · left; simpa using a
        clear K3 K4
        rcases t1 with t1 | t1
        all_goals
          rcases t3 with t3 | ⟨t3, t5 | ⟨t5, t7⟩⟩
          all_goals
            rcases t4 with t4 | ⟨t4, t6 | ⟨t6, t8⟩⟩
            all_goals
              go_wp2_with fail
              refine (wakes17 _).mono ?_
              rintro e w20 ⟨rfl, b20⟩
              go_wp2
              go_ret
              exact ⟨rfl, E14.low.trans (b20.mono E14.low.size)⟩
end Go.Proofs.Ythcapomobidnbaa
end
namespace Go.Proofs.Ythcapomobidnbaa.remeasureParts
open Go.ChangeShapes Go.WideShapes Go.ChangeAt Go.RowKit Go.Sl
set_option linter.unusedVariables false
set_option maxRecDepth 100000
theorem lifted (os : Os) (started : os.Started) (H : Type) (enc : TypeId × Value → H) :
    ReturnsInHanded {} Try.checked os 10 .any (Rows.remeasurePartsSpec.pre6 enc Try.prog Try.f10 Rows.remeasurePartsRow.domain false) (Rows.remeasurePartsSpec.post enc Try.prog Try.f10 false true false false) := by
  refine returnsInHanded_of_change_sized (C := Try.checked) Lift.own started (by kernel_rfl) Try.func10
    (ChangeSpec.witness6 (enc := enc) (C := Try.checked) false ⟨#[], #[.slice none 0 0, .slice none 0 0, .slice none 0 0], []⟩ 8 (by kernel_rfl) (by kernel_rfl) (by kernel_rfl) (by kernel_rfl)) ?_
  intro W base args ds gs before hval0 hW hcnd hsz0 _
  have hval : ∀ (j : Nat) t v, Try.f10.params[j]? = some t → args[j]? = some v → Value.okWide Try.prog W .any base t v := hval0
  have hW' := hW
  obtain ⟨p, q, hA0, hV, rfl, hfz, hnd⟩ := hW
  have hA : DataW.TrodAll enc Try.prog W 0 (fun _ => true) true Try.f10.params.toList args.toList ds p := hA0
  rw [Try.params10] at hA hval
  obtain ⟨v0, vs0, d0, ds0, p0, q0, hargs, rfl, rfl, h0, r0⟩ := trodAll_cons hA
  obtain ⟨v1, vs1, d1, ds1, p1, q1, rfl, rfl, rfl, h1, r1⟩ := trodAll_cons r0
  obtain ⟨v2, vs2, d2, ds2, p2, q2, rfl, rfl, rfl, h2, r2⟩ := trodAll_cons r1
  obtain ⟨rfl, rfl, rfl⟩ := trodAll_nil r2
  obtain rfl : args = #[v0, v1, v2] := by cases args; simp_all
  obtain ⟨rfl, rfl⟩ := trodVars_none hV
  have k0 := h0
  have lt0 : ∀ x ∈ p0, x.block < W.heap.size := by obtain ⟨m, hm⟩ := k0; exact DataW.trod_lt m _ _ _ hm
  obtain ⟨A0, c0, z0, rfl, s0, w0⟩ := Lift.ints_of (hval 0 22 v0 rfl rfl) h0
  have k1 := h1
  have lt1 : ∀ x ∈ p1, x.block < W.heap.size := by obtain ⟨m, hm⟩ := k1; exact DataW.trod_lt m _ _ _ hm
  obtain ⟨A1, c1, z1, rfl, s1, w1⟩ := Lift.ints_of (hval 1 22 v1 rfl rfl) h1
  have k2 := h2
  have lt2 : ∀ x ∈ p2, x.block < W.heap.size := by obtain ⟨m, hm⟩ := k2; exact DataW.trod_lt m _ _ _ hm
  obtain ⟨A2, c2, z2, rfl, s2, w2⟩ := Lift.ints_of (hval 2 22 v2 rfl rfl) h2
  clear hA0 hval0 hsz0
  refine (remeasureParts_calls A0 A1 A2 c0 c1 c2 z0 z1 z2 (Hp.all W) (Hp.all W) (Hp.all W) W (Hp.all_sub W) (Hp.all_sub W) (Hp.all_sub W) s0 s1 s2 w0).mono fun e W' ⟨he, bel⟩ => ?_
  subst he
  exact ⟨_, rfl, _, _, _, [], _, [], hW', trodAll_mk1 (shut_bool Try.underlying4 _), (trodAll_cons_mk (Below.trod Lift.laidOut (by kernel_rfl) (of_decide_eq_true (by kernel_rfl)) k0 bel lt0) (trodAll_cons_mk (Below.trod Lift.laidOut (by kernel_rfl) (of_decide_eq_true (by kernel_rfl)) k1 bel lt1) (trodAll_cons_mk (Below.trod Lift.laidOut (by kernel_rfl) (of_decide_eq_true (by kernel_rfl)) k2 bel lt2) trodAll_mk0))), rfl, bel.frame _, fun h => by cases h⟩
theorem over : Rows.remeasurePartsRow.holds Try.pinned (OpenSpec.ofChange Rows.remeasurePartsSpec) :=
  OpenClaim.holds_of_wide 10 Try.f10 rfl rfl rfl rfl rfl rfl rfl ⟨rfl, rfl, rfl, rfl, rfl⟩ rfl rfl rfl rfl rfl (by kernel_rfl) Try.func10 (by kernel_rfl)
    (of_decide_eq_true (by kernel_rfl)) (by unfold Func.isWrapper; first | (rw [if_pos (by decide +kernel)]; kernel_rfl) | (rw [if_neg (by decide +kernel)]; exact ⟨rfl, rfl⟩))
    (fun os started H enc _ => lifted os started H enc)
end Go.Proofs.Ythcapomobidnbaa.remeasureParts
namespace Go.Proofs.Ythcapomobidnbaa
theorem remeasureParts_holds : Rows.RemeasurePartsSaid := remeasureParts.over
#print axioms remeasureParts_holds
end Go.Proofs.Ythcapomobidnbaa
