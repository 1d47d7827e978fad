/- The law RemeasureTotal: for every input it returns true, and its arguments read behind the call as before it. No conditions. -/
import Derived.Test.YthcapomobidnbaaPk6
import Derived.Deep.DeepCutAuto
import Derived.Deep.RegionWith
section
/- The walk of law17.RemeasureTotal. -/
namespace Go.Proofs.Ythcapomobidnbaa
open Go.RowKit Go.Sl
set_option maxHeartbeats 4000000
set_option maxRecDepth 100000
theorem remeasureTotal_calls (A B D F : Option Addr) (ca cb cd cf : Nat) (za zb zo zn : List Int) (h1 h2 h3 h4 : Hp) (w : World) (hs1 : h1.sub w) (hs2 : h2.sub w) (hs3 : h3.sub w) (hs4 : h4.sub w) (s1 : Sl kInt h1 A ca za) (s2 : Sl kInt h2 B cb zb) (s3 : Sl kInt h3 D cd zo) (s4 : Sl kInt h4 F cf zn)
    (w1 : ∀ n ∈ za, I64 n) (w2 : ∀ n ∈ zb, I64 n) :
    Calls Try.prog 11 #[.slice A za.length ca, .slice B zb.length cb, .slice D zo.length cd, .slice F zn.length cf] w fun e w' => e = .returned (.bool true) ∧ Below w.heap.size w w' := by
  have E0 := Env.start w
  have m3 := s3.small
  have m4 := s4.small
  have RX := fun W l (E : Env w W l) => Rol.reg E s1 (hs1.of_below E.low) w1
  have RY := fun W l (E : Env w W l) => Rol.reg E s2 (hs2.of_below E.low) w2
  have gx := regOf_good za
  have gy := regOf_good zb
  generalize regOf za = xs at *
  generalize regOf zb = ys at *
  clear hs1 hs2 s1 s2 w1 w2
  go_enter Try.func11, Try.ntmps11
  go_upto_region 1 with fail
  go_cut [9, 10] (fun x y wx => ∃ (hx hy : Hp) (AX AY : Option Addr) (cx cy : Nat), x = .slice AX xs.length cx ∧ y = .slice AY ys.length cy ∧ Ow kTri hx AX cx xs ∧ Ow kTri hy AY cy ys ∧ Env w wx [hx, hy])
  case first =>
    go_region_with (first
        | (go_at_call 15; ((with_reducible refine (RX _ _ (by repeat (first | (with_reducible exact E0) | (with_reducible apply Env.drew) | (with_reducible apply Env.drewN) | (with_reducible apply Env.alloc')))).mono ?_)); rintro e w2 ⟨hx, bx, rfl, px, E1⟩; obtain ⟨AX, cx, kx, ox⟩ := px.regO (E1.sub 0 rfl))
        | (go_at_call 15; ((with_reducible refine (RY _ _ (by repeat (first | (with_reducible exact E1) | (with_reducible apply Env.drew) | (with_reducible apply Env.drewN) | (with_reducible apply Env.alloc')))).mono ?_)); rintro e w3 ⟨hy, by', rfl, py, E2⟩; obtain ⟨AY, cy, ky, oy⟩ := py.regO (E2.sub 1 rfl); obtain ⟨AX', cx', kx', ox'⟩ := px.regO (E2.sub 0 rfl))
        | fail)
    all_goals
      go_wp2_with fail
      go_meet
      have E3 := (E2.weak 0 rfl (Hp.del_le _ bx)).weak 1 rfl (Hp.del_le _ by')
      first
        | exact ⟨_, _, _, _, _, _, rfl, rfl, ox, oy, E3⟩
        | exact ⟨_, _, _, _, _, _, rfl, rfl, ox', oy, E3⟩
  case rest =>
    obtain ⟨hx, hy, AX, AY, cx, cy, rfl, rfl, ox, oy, E2⟩ := hcut
    have lx := gx.len
    have ly := gy.len
    have FR := fun (W : World) (l : List Hp) (E : Env w W l) (s1 : hx.sub W) (s2 : hy.sub W) => refForward_calls AX AY cx cy xs ys hx hy W s1 s2 ox.sl oy.sl
    have ln := len_ref gx gy
    have HF := fwd_ref gx gy
    have TP := fun (os ns : List Int) he hp hq => total_plain (os := os) (ns := ns) gx gy he hp hq
    generalize refFwd xs ys = rows at *
    go_wp2_with fail
    refine (FR _ _ E2 (E2.sub 0 rfl) (E2.sub 1 rfl)).mono ?_
    rintro e w3 ⟨C3, n3, hr, rfl, o3, u3⟩
    have E3 := E2.new u3
    simp at E3
    have E4 := (((E3.new (Upd.of_below (Below.refl _ _))).new (Upd.of_below (Below.refl _ _))).new (Upd.of_below (Below.refl _ _))).new (Upd.of_below (Below.refl _ _))
    simp at E4
    clear FR E3 u3
    have m5 := o3.small
    go_wp2
    go_loopw [12, 13, 14, 15, 41] (fun vo vn vx vy i wr => ∃ (j p q c1 c2 c3 c4 : Nat) (CO CN CX CY : Option Addr) (os ns : List Int) (ho hn hp hq : Hp), j ≤ rows.length ∧ i = .int .i64 j ∧ vo = .slice CO j c1 ∧ vn = .slice CN j c2 ∧ vx = .slice CX p c3 ∧ vy = .slice CY q c4 ∧ Hid (os.length = j) ∧ Hid (ns.length = j) ∧ Hid ((oxOf (rows.take j) os).length = p) ∧ Hid ((wyOf (rows.take j) ns).length = q) ∧ p ≤ j ∧ q ≤ j ∧
      Ow kInt ho CO c1 os ∧ Ow kInt hn CN c2 ns ∧ Ow kInt hp CX c3 (oxOf (rows.take j) os) ∧ Ow kInt hq CY c4 (wyOf (rows.take j) ns) ∧ Env w wr [hx, hy, hr, ho, hn, hp, hq]) (fun _ _ _ _ i _ => rows.length - (intOf i).toNat)
    case atStart => exact ⟨0, 0, 0, 0, 0, 0, 0, none, none, none, none, [], [], Hp.none, Hp.none, Hp.none, Hp.none, by omega, rfl, rfl, rfl, rfl, rfl, rfl, rfl, by simp [oxOf, Hid], by simp [wyOf, Hid], by omega, by omega, Ow.none _ _, Ow.none _ _, by simpa [oxOf] using Ow.none _ _, by simpa [wyOf] using Ow.none _ _, E4⟩
    case round =>
      clear E4
      obtain ⟨j, p, q, d1, d2, d3, d4, CO, CN, CX, CY, os, ns, ho, hn, hp, hq, hj, rfl, rfl, rfl, rfl, rfl, l1, l2, l3, l4, hp2, hq2, oo, on, op, oq, E⟩ := hrel
      by_cases hlt : j < rows.length
      · obtain ⟨x, hxx⟩ := some_of_lt hlt
        obtain ⟨b1, o1, rfl, c1, c2, c3, c4, c5⟩ := o3.sl.way (E.sub 2 rfl) hxx
        have i1 : (0 : Int) ≤ (j : Int) := by omega
        have i2 : (j : Int) < (rows.length : Int) := by omega
        have htl : (rows.take j).length = j := by rw [List.length_take]; omega
        have HX := fun (v : Int) => Lib.hid (oxOf_snoc (r := x) (o := v) (rows := rows.take j) (os := os) (l1.out.trans htl.symm))
        have HY := fun (v : Int) => Lib.hid (wyOf_snoc (r := x) (o := v) (rows := rows.take j) (os := ns) (l2.out.trans htl.symm))
        have HT := Lib.hid (take_next hxx)
        clear htl
        have hk : (¬ j < zo.length) ∨ (j < zo.length ∧ ∃ (b o : Nat) (z : Int), D = some ⟨b, o, none⟩ ∧ wr.cell? ⟨b, o + j, none⟩ = some (.int .i64 z) ∧ b < wr.heap.size) := by
          by_cases h : j < zo.length
          · right
            obtain ⟨z, hz⟩ := some_of_lt h
            obtain ⟨b, o, e, y⟩ := s3.int (hs3.of_below E.low) hz
            exact ⟨h, b, o, z, e, y, World.block_lt_of_cell? _ _ y⟩
          · exact .inl h
        have hm : (¬ j < zn.length) ∨ (j < zn.length ∧ ∃ (b o : Nat) (z : Int), F = some ⟨b, o, none⟩ ∧ wr.cell? ⟨b, o + j, none⟩ = some (.int .i64 z) ∧ b < wr.heap.size) := by
          by_cases h : j < zn.length
          · right
            obtain ⟨z, hz⟩ := some_of_lt h
            obtain ⟨b, o, e, y⟩ := s4.int (hs4.of_below E.low) hz
            exact ⟨h, b, o, z, e, y, World.block_lt_of_cell? _ _ y⟩
          · exact .inl h
        have hL1 : ∀ v : Int, (os ++ [v]).length = j + 1 := fun v => by rw [List.length_append, l1.out]; rfl
        have hL2 : ∀ v : Int, (ns ++ [v]).length = j + 1 := fun v => by rw [List.length_append, l2.out]; rfl
        have HL1 := Lib.hid hL1
        have HL2 := Lib.hid hL2
        clear hL1 hL2
        have hz : ((x.opn != 0) = true ∨ (x.opn != 0) = false) ∧ ((x.clo != 0) = true ∨ (x.clo != 0) = false) := ⟨by cases (x.opn != 0) <;> simp, by cases (x.clo != 0) <;> simp⟩
        obtain ⟨hz1, hz2⟩ := hz
        rcases hk with hk | ⟨hk, bk, ok, zk, rfl, yk, bkl⟩
        · rcases hm with hm | ⟨hm, bm, om, zm, rfl, ym, bml⟩
          · rcases hz1 with ha | ha
            · rcases hz2 with hb | hb
              · skip
                generalize oxOf (rows.take j) os = lo at *
                generalize wyOf (rows.take j) ns = ln2 at *
                have eX := HX 250000
                have eY := HY 300000
                rw [if_neg (by simpa using ha)] at eX
                rw [if_neg (by simpa using hb)] at eY
                clear HX HY
                have EW := E.alloc (.cells #[.int .i64 x.cls, .int .i64 x.yr, .int .i64 x.opn, .int .i64 x.mov, .int .i64 x.clo] 44)
                simp at EW
                go_wp2_with (first | (at_builtin; refine wpList_eapp 3 250000 Try.underlying22 info_int (by repeat (first | (with_reducible exact EW) | (with_reducible apply Env.drew) | (with_reducible apply Env.drewN) | (with_reducible apply Env.alloc'))) (by rfl) oo j l1.out (by rfl) (by rfl) rfl 1 (by rfl) (by rfl) (heap_new_at (by simp)) (by rfl) (by omega) (by omega) ?_; intro CO2 co2 w5 ho2 oo2 E5) | (at_builtin; refine wpList_eapp 4 300000 Try.underlying22 info_int (by repeat (first | (with_reducible exact E5) | (with_reducible apply Env.drew) | (with_reducible apply Env.drewN) | (with_reducible apply Env.alloc'))) (by rfl) on j l2.out (by rfl) (by rfl) rfl 1 (by rfl) (by rfl) (heap_new_at (by simp)) (by rfl) (by omega) (by omega) ?_; intro CN2 cn2 w6 hn2 on2 E6; have r2 := E6.cell 7 rfl 2 rfl; have r4 := E6.cell 7 rfl 4 rfl) | (at_builtin; refine wpList_eapp 5 250000 Try.underlying22 info_int (by repeat (first | (with_reducible exact E6) | (with_reducible apply Env.drew) | (with_reducible apply Env.drewN) | (with_reducible apply Env.alloc'))) (by rfl) op p l3.out (by rfl) (by rfl) rfl 1 (by rfl) (by rfl) (heap_new_at (by simp)) (by rfl) (by omega) (by omega) ?_; intro CX2 cx2 w7 hp2 op2 E7; have r5 := E7.cell 7 rfl 4 rfl) | (at_builtin; refine wpList_eapp 6 300000 Try.underlying22 info_int (by repeat (first | (with_reducible exact E7) | (with_reducible apply Env.drew) | (with_reducible apply Env.drewN) | (with_reducible apply Env.alloc'))) (by rfl) oq q l4.out (by rfl) (by rfl) rfl 1 (by rfl) (by rfl) (heap_new_at (by simp)) (by rfl) (by omega) (by omega) ?_; intro CY2 cy2 w8 hq2 oq2 E8))
                have EF := E8.drop 7
                simp at EF
                go_roundw
                case rel => exact ⟨j + 1, p + 1, q + 1, co2, cn2, cx2, cy2, CO2, CN2, CX2, CY2, os ++ [250000], ns ++ [300000], ho2, hn2, hp2, hq2, by omega, by go_num, rfl, rfl, rfl, rfl, HL1.out _, HL2.out _, by unfold Hid; rw [HT.out, eX.out]; rw [List.length_append, l3.out]; rfl, by unfold Hid; rw [HT.out, eY.out]; rw [List.length_append, l4.out]; rfl, by omega, by omega, oo2, on2, by rw [HT.out, eX.out]; exact op2, by rw [HT.out, eY.out]; exact oq2, EF⟩
                case measure => simp [intOf]; omega
              · skip
                generalize oxOf (rows.take j) os = lo at *
                generalize wyOf (rows.take j) ns = ln2 at *
                have eX := HX 250000
                have eY := HY 300000
                rw [if_neg (by simpa using ha)] at eX
                rw [if_pos (by simpa using hb), List.append_nil] at eY
                clear HX HY
                have EW := E.alloc (.cells #[.int .i64 x.cls, .int .i64 x.yr, .int .i64 x.opn, .int .i64 x.mov, .int .i64 x.clo] 44)
                simp at EW
                go_wp2_with (first | (at_builtin; refine wpList_eapp 3 250000 Try.underlying22 info_int (by repeat (first | (with_reducible exact EW) | (with_reducible apply Env.drew) | (with_reducible apply Env.drewN) | (with_reducible apply Env.alloc'))) (by rfl) oo j l1.out (by rfl) (by rfl) rfl 1 (by rfl) (by rfl) (heap_new_at (by simp)) (by rfl) (by omega) (by omega) ?_; intro CO2 co2 w5 ho2 oo2 E5) | (at_builtin; refine wpList_eapp 4 300000 Try.underlying22 info_int (by repeat (first | (with_reducible exact E5) | (with_reducible apply Env.drew) | (with_reducible apply Env.drewN) | (with_reducible apply Env.alloc'))) (by rfl) on j l2.out (by rfl) (by rfl) rfl 1 (by rfl) (by rfl) (heap_new_at (by simp)) (by rfl) (by omega) (by omega) ?_; intro CN2 cn2 w6 hn2 on2 E6; have r2 := E6.cell 7 rfl 2 rfl; have r4 := E6.cell 7 rfl 4 rfl) | (at_builtin; refine wpList_eapp 5 250000 Try.underlying22 info_int (by repeat (first | (with_reducible exact E6) | (with_reducible apply Env.drew) | (with_reducible apply Env.drewN) | (with_reducible apply Env.alloc'))) (by rfl) op p l3.out (by rfl) (by rfl) rfl 1 (by rfl) (by rfl) (heap_new_at (by simp)) (by rfl) (by omega) (by omega) ?_; intro CX2 cx2 w7 hp2 op2 E7; have r5 := E7.cell 7 rfl 4 rfl))
                have EF := E7.drop 7
                simp at EF
                go_roundw
                case rel => exact ⟨j + 1, p + 1, q, co2, cn2, cx2, d4, CO2, CN2, CX2, CY, os ++ [250000], ns ++ [300000], ho2, hn2, hp2, hq, by omega, by go_num, rfl, rfl, rfl, rfl, HL1.out _, HL2.out _, by unfold Hid; rw [HT.out, eX.out]; rw [List.length_append, l3.out]; rfl, by unfold Hid; rw [HT.out, eY.out]; exact l4.out, by omega, by omega, oo2, on2, by rw [HT.out, eX.out]; exact op2, by rw [HT.out, eY.out]; exact oq, EF⟩
                case measure => simp [intOf]; omega
            · rcases hz2 with hb | hb
              · skip
                generalize oxOf (rows.take j) os = lo at *
                generalize wyOf (rows.take j) ns = ln2 at *
                have eX := HX 250000
                have eY := HY 300000
                rw [if_pos (by simpa using ha), List.append_nil] at eX
                rw [if_neg (by simpa using hb)] at eY
                clear HX HY
                have EW := E.alloc (.cells #[.int .i64 x.cls, .int .i64 x.yr, .int .i64 x.opn, .int .i64 x.mov, .int .i64 x.clo] 44)
                simp at EW
                go_wp2_with (first | (at_builtin; refine wpList_eapp 3 250000 Try.underlying22 info_int (by repeat (first | (with_reducible exact EW) | (with_reducible apply Env.drew) | (with_reducible apply Env.drewN) | (with_reducible apply Env.alloc'))) (by rfl) oo j l1.out (by rfl) (by rfl) rfl 1 (by rfl) (by rfl) (heap_new_at (by simp)) (by rfl) (by omega) (by omega) ?_; intro CO2 co2 w5 ho2 oo2 E5) | (at_builtin; refine wpList_eapp 4 300000 Try.underlying22 info_int (by repeat (first | (with_reducible exact E5) | (with_reducible apply Env.drew) | (with_reducible apply Env.drewN) | (with_reducible apply Env.alloc'))) (by rfl) on j l2.out (by rfl) (by rfl) rfl 1 (by rfl) (by rfl) (heap_new_at (by simp)) (by rfl) (by omega) (by omega) ?_; intro CN2 cn2 w6 hn2 on2 E6; have r2 := E6.cell 7 rfl 2 rfl; have r4 := E6.cell 7 rfl 4 rfl) | (at_builtin; refine wpList_eapp 6 300000 Try.underlying22 info_int (by repeat (first | (with_reducible exact E6) | (with_reducible apply Env.drew) | (with_reducible apply Env.drewN) | (with_reducible apply Env.alloc'))) (by rfl) oq q l4.out (by rfl) (by rfl) rfl 1 (by rfl) (by rfl) (heap_new_at (by simp)) (by rfl) (by omega) (by omega) ?_; intro CY2 cy2 w8 hq2 oq2 E8))
                have EF := E8.drop 7
                simp at EF
                go_roundw
                case rel => exact ⟨j + 1, p, q + 1, co2, cn2, d3, cy2, CO2, CN2, CX, CY2, os ++ [250000], ns ++ [300000], ho2, hn2, hp, hq2, by omega, by go_num, rfl, rfl, rfl, rfl, HL1.out _, HL2.out _, by unfold Hid; rw [HT.out, eX.out]; exact l3.out, by unfold Hid; rw [HT.out, eY.out]; rw [List.length_append, l4.out]; rfl, by omega, by omega, oo2, on2, by rw [HT.out, eX.out]; exact op, by rw [HT.out, eY.out]; exact oq2, EF⟩
                case measure => simp [intOf]; omega
              · skip
                generalize oxOf (rows.take j) os = lo at *
                generalize wyOf (rows.take j) ns = ln2 at *
                have eX := HX 250000
                have eY := HY 300000
                rw [if_pos (by simpa using ha), List.append_nil] at eX
                rw [if_pos (by simpa using hb), List.append_nil] at eY
                clear HX HY
                have EW := E.alloc (.cells #[.int .i64 x.cls, .int .i64 x.yr, .int .i64 x.opn, .int .i64 x.mov, .int .i64 x.clo] 44)
                simp at EW
                go_wp2_with (first | (at_builtin; refine wpList_eapp 3 250000 Try.underlying22 info_int (by repeat (first | (with_reducible exact EW) | (with_reducible apply Env.drew) | (with_reducible apply Env.drewN) | (with_reducible apply Env.alloc'))) (by rfl) oo j l1.out (by rfl) (by rfl) rfl 1 (by rfl) (by rfl) (heap_new_at (by simp)) (by rfl) (by omega) (by omega) ?_; intro CO2 co2 w5 ho2 oo2 E5) | (at_builtin; refine wpList_eapp 4 300000 Try.underlying22 info_int (by repeat (first | (with_reducible exact E5) | (with_reducible apply Env.drew) | (with_reducible apply Env.drewN) | (with_reducible apply Env.alloc'))) (by rfl) on j l2.out (by rfl) (by rfl) rfl 1 (by rfl) (by rfl) (heap_new_at (by simp)) (by rfl) (by omega) (by omega) ?_; intro CN2 cn2 w6 hn2 on2 E6; have r2 := E6.cell 7 rfl 2 rfl; have r4 := E6.cell 7 rfl 4 rfl))
                have EF := E6.drop 7
                simp at EF
                go_roundw
                case rel => exact ⟨j + 1, p, q, co2, cn2, d3, d4, CO2, CN2, CX, CY, os ++ [250000], ns ++ [300000], ho2, hn2, hp, hq, by omega, by go_num, rfl, rfl, rfl, rfl, HL1.out _, HL2.out _, by unfold Hid; rw [HT.out, eX.out]; exact l3.out, by unfold Hid; rw [HT.out, eY.out]; exact l4.out, by omega, by omega, oo2, on2, by rw [HT.out, eX.out]; exact op, by rw [HT.out, eY.out]; exact oq, EF⟩
                case measure => simp [intOf]; omega
          · rcases hz1 with ha | ha
            · rcases hz2 with hb | hb
              · skip
                generalize oxOf (rows.take j) os = lo at *
                generalize wyOf (rows.take j) ns = ln2 at *
                have yma := fun o => (cell_alloc (o := o) bml).trans ym
                have WM := fun W => within_calls zm 1000001 W (by omega) (by omega)
                generalize within zm 1000001 = vm at *
                have eX := HX 250000
                have eY := HY vm
                rw [if_neg (by simpa using ha)] at eX
                rw [if_neg (by simpa using hb)] at eY
                clear HX HY
                have EW := E.alloc (.cells #[.int .i64 x.cls, .int .i64 x.yr, .int .i64 x.opn, .int .i64 x.mov, .int .i64 x.clo] 44)
                simp at EW
                go_wp2_with (first | (go_at_call 21; ((with_reducible refine (WM _).mono ?_)); rintro e w' ⟨rfl, rfl⟩) | (at_builtin; refine wpList_eapp 3 250000 Try.underlying22 info_int (by repeat (first | (with_reducible exact EW) | (with_reducible apply Env.drew) | (with_reducible apply Env.drewN) | (with_reducible apply Env.alloc'))) (by rfl) oo j l1.out (by rfl) (by rfl) rfl 1 (by rfl) (by rfl) (heap_new_at (by simp)) (by rfl) (by omega) (by omega) ?_; intro CO2 co2 w5 ho2 oo2 E5) | (at_builtin; refine wpList_eapp 4 vm Try.underlying22 info_int (by repeat (first | (with_reducible exact E5) | (with_reducible apply Env.drew) | (with_reducible apply Env.drewN) | (with_reducible apply Env.alloc'))) (by rfl) on j l2.out (by rfl) (by rfl) rfl 1 (by rfl) (by rfl) (heap_new_at (by simp)) (by rfl) (by omega) (by omega) ?_; intro CN2 cn2 w6 hn2 on2 E6; have r2 := E6.cell 7 rfl 2 rfl; have r4 := E6.cell 7 rfl 4 rfl) | (at_builtin; refine wpList_eapp 5 250000 Try.underlying22 info_int (by repeat (first | (with_reducible exact E6) | (with_reducible apply Env.drew) | (with_reducible apply Env.drewN) | (with_reducible apply Env.alloc'))) (by rfl) op p l3.out (by rfl) (by rfl) rfl 1 (by rfl) (by rfl) (heap_new_at (by simp)) (by rfl) (by omega) (by omega) ?_; intro CX2 cx2 w7 hp2 op2 E7; have r5 := E7.cell 7 rfl 4 rfl) | (at_builtin; refine wpList_eapp 6 vm Try.underlying22 info_int (by repeat (first | (with_reducible exact E7) | (with_reducible apply Env.drew) | (with_reducible apply Env.drewN) | (with_reducible apply Env.alloc'))) (by rfl) oq q l4.out (by rfl) (by rfl) rfl 1 (by rfl) (by rfl) (heap_new_at (by simp)) (by rfl) (by omega) (by omega) ?_; intro CY2 cy2 w8 hq2 oq2 E8))
                have EF := E8.drop 7
                simp at EF
                go_roundw
                case rel => exact ⟨j + 1, p + 1, q + 1, co2, cn2, cx2, cy2, CO2, CN2, CX2, CY2, os ++ [250000], ns ++ [vm], ho2, hn2, hp2, hq2, by omega, by go_num, rfl, rfl, rfl, rfl, HL1.out _, HL2.out _, by unfold Hid; rw [HT.out, eX.out]; rw [List.length_append, l3.out]; rfl, by unfold Hid; rw [HT.out, eY.out]; rw [List.length_append, l4.out]; rfl, by omega, by omega, oo2, on2, by rw [HT.out, eX.out]; exact op2, by rw [HT.out, eY.out]; exact oq2, EF⟩
                case measure => simp [intOf]; omega
              · skip
                generalize oxOf (rows.take j) os = lo at *
                generalize wyOf (rows.take j) ns = ln2 at *
                have yma := fun o => (cell_alloc (o := o) bml).trans ym
                have WM := fun W => within_calls zm 1000001 W (by omega) (by omega)
                generalize within zm 1000001 = vm at *
                have eX := HX 250000
                have eY := HY vm
                rw [if_neg (by simpa using ha)] at eX
                rw [if_pos (by simpa using hb), List.append_nil] at eY
                clear HX HY
                have EW := E.alloc (.cells #[.int .i64 x.cls, .int .i64 x.yr, .int .i64 x.opn, .int .i64 x.mov, .int .i64 x.clo] 44)
                simp at EW
                go_wp2_with (first | (go_at_call 21; ((with_reducible refine (WM _).mono ?_)); rintro e w' ⟨rfl, rfl⟩) | (at_builtin; refine wpList_eapp 3 250000 Try.underlying22 info_int (by repeat (first | (with_reducible exact EW) | (with_reducible apply Env.drew) | (with_reducible apply Env.drewN) | (with_reducible apply Env.alloc'))) (by rfl) oo j l1.out (by rfl) (by rfl) rfl 1 (by rfl) (by rfl) (heap_new_at (by simp)) (by rfl) (by omega) (by omega) ?_; intro CO2 co2 w5 ho2 oo2 E5) | (at_builtin; refine wpList_eapp 4 vm Try.underlying22 info_int (by repeat (first | (with_reducible exact E5) | (with_reducible apply Env.drew) | (with_reducible apply Env.drewN) | (with_reducible apply Env.alloc'))) (by rfl) on j l2.out (by rfl) (by rfl) rfl 1 (by rfl) (by rfl) (heap_new_at (by simp)) (by rfl) (by omega) (by omega) ?_; intro CN2 cn2 w6 hn2 on2 E6; have r2 := E6.cell 7 rfl 2 rfl; have r4 := E6.cell 7 rfl 4 rfl) | (at_builtin; refine wpList_eapp 5 250000 Try.underlying22 info_int (by repeat (first | (with_reducible exact E6) | (with_reducible apply Env.drew) | (with_reducible apply Env.drewN) | (with_reducible apply Env.alloc'))) (by rfl) op p l3.out (by rfl) (by rfl) rfl 1 (by rfl) (by rfl) (heap_new_at (by simp)) (by rfl) (by omega) (by omega) ?_; intro CX2 cx2 w7 hp2 op2 E7; have r5 := E7.cell 7 rfl 4 rfl))
                have EF := E7.drop 7
                simp at EF
                go_roundw
                case rel => exact ⟨j + 1, p + 1, q, co2, cn2, cx2, d4, CO2, CN2, CX2, CY, os ++ [250000], ns ++ [vm], ho2, hn2, hp2, hq, by omega, by go_num, rfl, rfl, rfl, rfl, HL1.out _, HL2.out _, by unfold Hid; rw [HT.out, eX.out]; rw [List.length_append, l3.out]; rfl, by unfold Hid; rw [HT.out, eY.out]; exact l4.out, by omega, by omega, oo2, on2, by rw [HT.out, eX.out]; exact op2, by rw [HT.out, eY.out]; exact oq, EF⟩
                case measure => simp [intOf]; omega
            · rcases hz2 with hb | hb
              · skip
                generalize oxOf (rows.take j) os = lo at *
                generalize wyOf (rows.take j) ns = ln2 at *
                have yma := fun o => (cell_alloc (o := o) bml).trans ym
                have WM := fun W => within_calls zm 1000001 W (by omega) (by omega)
                generalize within zm 1000001 = vm at *
                have eX := HX 250000
                have eY := HY vm
                rw [if_pos (by simpa using ha), List.append_nil] at eX
                rw [if_neg (by simpa using hb)] at eY
                clear HX HY
                have EW := E.alloc (.cells #[.int .i64 x.cls, .int .i64 x.yr, .int .i64 x.opn, .int .i64 x.mov, .int .i64 x.clo] 44)
                simp at EW
                go_wp2_with (first | (go_at_call 21; ((with_reducible refine (WM _).mono ?_)); rintro e w' ⟨rfl, rfl⟩) | (at_builtin; refine wpList_eapp 3 250000 Try.underlying22 info_int (by repeat (first | (with_reducible exact EW) | (with_reducible apply Env.drew) | (with_reducible apply Env.drewN) | (with_reducible apply Env.alloc'))) (by rfl) oo j l1.out (by rfl) (by rfl) rfl 1 (by rfl) (by rfl) (heap_new_at (by simp)) (by rfl) (by omega) (by omega) ?_; intro CO2 co2 w5 ho2 oo2 E5) | (at_builtin; refine wpList_eapp 4 vm Try.underlying22 info_int (by repeat (first | (with_reducible exact E5) | (with_reducible apply Env.drew) | (with_reducible apply Env.drewN) | (with_reducible apply Env.alloc'))) (by rfl) on j l2.out (by rfl) (by rfl) rfl 1 (by rfl) (by rfl) (heap_new_at (by simp)) (by rfl) (by omega) (by omega) ?_; intro CN2 cn2 w6 hn2 on2 E6; have r2 := E6.cell 7 rfl 2 rfl; have r4 := E6.cell 7 rfl 4 rfl) | (at_builtin; refine wpList_eapp 6 vm Try.underlying22 info_int (by repeat (first | (with_reducible exact E6) | (with_reducible apply Env.drew) | (with_reducible apply Env.drewN) | (with_reducible apply Env.alloc'))) (by rfl) oq q l4.out (by rfl) (by rfl) rfl 1 (by rfl) (by rfl) (heap_new_at (by simp)) (by rfl) (by omega) (by omega) ?_; intro CY2 cy2 w8 hq2 oq2 E8))
                have EF := E8.drop 7
                simp at EF
                go_roundw
                case rel => exact ⟨j + 1, p, q + 1, co2, cn2, d3, cy2, CO2, CN2, CX, CY2, os ++ [250000], ns ++ [vm], ho2, hn2, hp, hq2, by omega, by go_num, rfl, rfl, rfl, rfl, HL1.out _, HL2.out _, by unfold Hid; rw [HT.out, eX.out]; exact l3.out, by unfold Hid; rw [HT.out, eY.out]; rw [List.length_append, l4.out]; rfl, by omega, by omega, oo2, on2, by rw [HT.out, eX.out]; exact op, by rw [HT.out, eY.out]; exact oq2, EF⟩
                case measure => simp [intOf]; omega
              · skip
                generalize oxOf (rows.take j) os = lo at *
                generalize wyOf (rows.take j) ns = ln2 at *
                have yma := fun o => (cell_alloc (o := o) bml).trans ym
                have WM := fun W => within_calls zm 1000001 W (by omega) (by omega)
                generalize within zm 1000001 = vm at *
                have eX := HX 250000
                have eY := HY vm
                rw [if_pos (by simpa using ha), List.append_nil] at eX
                rw [if_pos (by simpa using hb), List.append_nil] at eY
                clear HX HY
                have EW := E.alloc (.cells #[.int .i64 x.cls, .int .i64 x.yr, .int .i64 x.opn, .int .i64 x.mov, .int .i64 x.clo] 44)
                simp at EW
                go_wp2_with (first | (go_at_call 21; ((with_reducible refine (WM _).mono ?_)); rintro e w' ⟨rfl, rfl⟩) | (at_builtin; refine wpList_eapp 3 250000 Try.underlying22 info_int (by repeat (first | (with_reducible exact EW) | (with_reducible apply Env.drew) | (with_reducible apply Env.drewN) | (with_reducible apply Env.alloc'))) (by rfl) oo j l1.out (by rfl) (by rfl) rfl 1 (by rfl) (by rfl) (heap_new_at (by simp)) (by rfl) (by omega) (by omega) ?_; intro CO2 co2 w5 ho2 oo2 E5) | (at_builtin; refine wpList_eapp 4 vm Try.underlying22 info_int (by repeat (first | (with_reducible exact E5) | (with_reducible apply Env.drew) | (with_reducible apply Env.drewN) | (with_reducible apply Env.alloc'))) (by rfl) on j l2.out (by rfl) (by rfl) rfl 1 (by rfl) (by rfl) (heap_new_at (by simp)) (by rfl) (by omega) (by omega) ?_; intro CN2 cn2 w6 hn2 on2 E6; have r2 := E6.cell 7 rfl 2 rfl; have r4 := E6.cell 7 rfl 4 rfl))
                have EF := E6.drop 7
                simp at EF
                go_roundw
                case rel => exact ⟨j + 1, p, q, co2, cn2, d3, d4, CO2, CN2, CX, CY, os ++ [250000], ns ++ [vm], ho2, hn2, hp, hq, by omega, by go_num, rfl, rfl, rfl, rfl, HL1.out _, HL2.out _, by unfold Hid; rw [HT.out, eX.out]; exact l3.out, by unfold Hid; rw [HT.out, eY.out]; exact l4.out, by omega, by omega, oo2, on2, by rw [HT.out, eX.out]; exact op, by rw [HT.out, eY.out]; exact oq, EF⟩
                case measure => simp [intOf]; omega
        · rcases hm with hm | ⟨hm, bm, om, zm, rfl, ym, bml⟩
          · rcases hz1 with ha | ha
            · rcases hz2 with hb | hb
              · skip
                generalize oxOf (rows.take j) os = lo at *
                generalize wyOf (rows.take j) ns = ln2 at *
                have yka := fun o => (cell_alloc (o := o) bkl).trans yk
                have WK := fun W => within_calls zk 1000001 W (by omega) (by omega)
                generalize within zk 1000001 = vk at *
                have eX := HX vk
                have eY := HY 300000
                rw [if_neg (by simpa using ha)] at eX
                rw [if_neg (by simpa using hb)] at eY
                clear HX HY
                have EW := E.alloc (.cells #[.int .i64 x.cls, .int .i64 x.yr, .int .i64 x.opn, .int .i64 x.mov, .int .i64 x.clo] 44)
                simp at EW
                go_wp2_with (first | (go_at_call 21; ((with_reducible refine (WK _).mono ?_)); rintro e w' ⟨rfl, rfl⟩) | (at_builtin; refine wpList_eapp 3 vk Try.underlying22 info_int (by repeat (first | (with_reducible exact EW) | (with_reducible apply Env.drew) | (with_reducible apply Env.drewN) | (with_reducible apply Env.alloc'))) (by rfl) oo j l1.out (by rfl) (by rfl) rfl 1 (by rfl) (by rfl) (heap_new_at (by simp)) (by rfl) (by omega) (by omega) ?_; intro CO2 co2 w5 ho2 oo2 E5) | (at_builtin; refine wpList_eapp 4 300000 Try.underlying22 info_int (by repeat (first | (with_reducible exact E5) | (with_reducible apply Env.drew) | (with_reducible apply Env.drewN) | (with_reducible apply Env.alloc'))) (by rfl) on j l2.out (by rfl) (by rfl) rfl 1 (by rfl) (by rfl) (heap_new_at (by simp)) (by rfl) (by omega) (by omega) ?_; intro CN2 cn2 w6 hn2 on2 E6; have r2 := E6.cell 7 rfl 2 rfl; have r4 := E6.cell 7 rfl 4 rfl) | (at_builtin; refine wpList_eapp 5 vk Try.underlying22 info_int (by repeat (first | (with_reducible exact E6) | (with_reducible apply Env.drew) | (with_reducible apply Env.drewN) | (with_reducible apply Env.alloc'))) (by rfl) op p l3.out (by rfl) (by rfl) rfl 1 (by rfl) (by rfl) (heap_new_at (by simp)) (by rfl) (by omega) (by omega) ?_; intro CX2 cx2 w7 hp2 op2 E7; have r5 := E7.cell 7 rfl 4 rfl) | (at_builtin; refine wpList_eapp 6 300000 Try.underlying22 info_int (by repeat (first | (with_reducible exact E7) | (with_reducible apply Env.drew) | (with_reducible apply Env.drewN) | (with_reducible apply Env.alloc'))) (by rfl) oq q l4.out (by rfl) (by rfl) rfl 1 (by rfl) (by rfl) (heap_new_at (by simp)) (by rfl) (by omega) (by omega) ?_; intro CY2 cy2 w8 hq2 oq2 E8))
                have EF := E8.drop 7
                simp at EF
                go_roundw
                case rel => exact ⟨j + 1, p + 1, q + 1, co2, cn2, cx2, cy2, CO2, CN2, CX2, CY2, os ++ [vk], ns ++ [300000], ho2, hn2, hp2, hq2, by omega, by go_num, rfl, rfl, rfl, rfl, HL1.out _, HL2.out _, by unfold Hid; rw [HT.out, eX.out]; rw [List.length_append, l3.out]; rfl, by unfold Hid; rw [HT.out, eY.out]; rw [List.length_append, l4.out]; rfl, by omega, by omega, oo2, on2, by rw [HT.out, eX.out]; exact op2, by rw [HT.out, eY.out]; exact oq2, EF⟩
                case measure => simp [intOf]; omega
              · skip
                generalize oxOf (rows.take j) os = lo at *
                generalize wyOf (rows.take j) ns = ln2 at *
                have yka := fun o => (cell_alloc (o := o) bkl).trans yk
                have WK := fun W => within_calls zk 1000001 W (by omega) (by omega)
                generalize within zk 1000001 = vk at *
                have eX := HX vk
                have eY := HY 300000
                rw [if_neg (by simpa using ha)] at eX
                rw [if_pos (by simpa using hb), List.append_nil] at eY
                clear HX HY
                have EW := E.alloc (.cells #[.int .i64 x.cls, .int .i64 x.yr, .int .i64 x.opn, .int .i64 x.mov, .int .i64 x.clo] 44)
                simp at EW
                go_wp2_with (first | (go_at_call 21; ((with_reducible refine (WK _).mono ?_)); rintro e w' ⟨rfl, rfl⟩) | (at_builtin; refine wpList_eapp 3 vk Try.underlying22 info_int (by repeat (first | (with_reducible exact EW) | (with_reducible apply Env.drew) | (with_reducible apply Env.drewN) | (with_reducible apply Env.alloc'))) (by rfl) oo j l1.out (by rfl) (by rfl) rfl 1 (by rfl) (by rfl) (heap_new_at (by simp)) (by rfl) (by omega) (by omega) ?_; intro CO2 co2 w5 ho2 oo2 E5) | (at_builtin; refine wpList_eapp 4 300000 Try.underlying22 info_int (by repeat (first | (with_reducible exact E5) | (with_reducible apply Env.drew) | (with_reducible apply Env.drewN) | (with_reducible apply Env.alloc'))) (by rfl) on j l2.out (by rfl) (by rfl) rfl 1 (by rfl) (by rfl) (heap_new_at (by simp)) (by rfl) (by omega) (by omega) ?_; intro CN2 cn2 w6 hn2 on2 E6; have r2 := E6.cell 7 rfl 2 rfl; have r4 := E6.cell 7 rfl 4 rfl) | (at_builtin; refine wpList_eapp 5 vk Try.underlying22 info_int (by repeat (first | (with_reducible exact E6) | (with_reducible apply Env.drew) | (with_reducible apply Env.drewN) | (with_reducible apply Env.alloc'))) (by rfl) op p l3.out (by rfl) (by rfl) rfl 1 (by rfl) (by rfl) (heap_new_at (by simp)) (by rfl) (by omega) (by omega) ?_; intro CX2 cx2 w7 hp2 op2 E7; have r5 := E7.cell 7 rfl 4 rfl))
                have EF := E7.drop 7
                simp at EF
                go_roundw
                case rel => exact ⟨j + 1, p + 1, q, co2, cn2, cx2, d4, CO2, CN2, CX2, CY, os ++ [vk], ns ++ [300000], ho2, hn2, hp2, hq, by omega, by go_num, rfl, rfl, rfl, rfl, HL1.out _, HL2.out _, by unfold Hid; rw [HT.out, eX.out]; rw [List.length_append, l3.out]; rfl, by unfold Hid; rw [HT.out, eY.out]; exact l4.out, by omega, by omega, oo2, on2, by rw [HT.out, eX.out]; exact op2, by rw [HT.out, eY.out]; exact oq, EF⟩
                case measure => simp [intOf]; omega
            · rcases hz2 with hb | hb
              · skip
                generalize oxOf (rows.take j) os = lo at *
                generalize wyOf (rows.take j) ns = ln2 at *
                have yka := fun o => (cell_alloc (o := o) bkl).trans yk
                have WK := fun W => within_calls zk 1000001 W (by omega) (by omega)
                generalize within zk 1000001 = vk at *
                have eX := HX vk
                have eY := HY 300000
                rw [if_pos (by simpa using ha), List.append_nil] at eX
                rw [if_neg (by simpa using hb)] at eY
                clear HX HY
                have EW := E.alloc (.cells #[.int .i64 x.cls, .int .i64 x.yr, .int .i64 x.opn, .int .i64 x.mov, .int .i64 x.clo] 44)
                simp at EW
                go_wp2_with (first | (go_at_call 21; ((with_reducible refine (WK _).mono ?_)); rintro e w' ⟨rfl, rfl⟩) | (at_builtin; refine wpList_eapp 3 vk Try.underlying22 info_int (by repeat (first | (with_reducible exact EW) | (with_reducible apply Env.drew) | (with_reducible apply Env.drewN) | (with_reducible apply Env.alloc'))) (by rfl) oo j l1.out (by rfl) (by rfl) rfl 1 (by rfl) (by rfl) (heap_new_at (by simp)) (by rfl) (by omega) (by omega) ?_; intro CO2 co2 w5 ho2 oo2 E5) | (at_builtin; refine wpList_eapp 4 300000 Try.underlying22 info_int (by repeat (first | (with_reducible exact E5) | (with_reducible apply Env.drew) | (with_reducible apply Env.drewN) | (with_reducible apply Env.alloc'))) (by rfl) on j l2.out (by rfl) (by rfl) rfl 1 (by rfl) (by rfl) (heap_new_at (by simp)) (by rfl) (by omega) (by omega) ?_; intro CN2 cn2 w6 hn2 on2 E6; have r2 := E6.cell 7 rfl 2 rfl; have r4 := E6.cell 7 rfl 4 rfl) | (at_builtin; refine wpList_eapp 6 300000 Try.underlying22 info_int (by repeat (first | (with_reducible exact E6) | (with_reducible apply Env.drew) | (with_reducible apply Env.drewN) | (with_reducible apply Env.alloc'))) (by rfl) oq q l4.out (by rfl) (by rfl) rfl 1 (by rfl) (by rfl) (heap_new_at (by simp)) (by rfl) (by omega) (by omega) ?_; intro CY2 cy2 w8 hq2 oq2 E8))
                have EF := E8.drop 7
                simp at EF
                go_roundw
                case rel => exact ⟨j + 1, p, q + 1, co2, cn2, d3, cy2, CO2, CN2, CX, CY2, os ++ [vk], ns ++ [300000], ho2, hn2, hp, hq2, by omega, by go_num, rfl, rfl, rfl, rfl, HL1.out _, HL2.out _, by unfold Hid; rw [HT.out, eX.out]; exact l3.out, by unfold Hid; rw [HT.out, eY.out]; rw [List.length_append, l4.out]; rfl, by omega, by omega, oo2, on2, by rw [HT.out, eX.out]; exact op, by rw [HT.out, eY.out]; exact oq2, EF⟩
                case measure => simp [intOf]; omega
              · skip
                generalize oxOf (rows.take j) os = lo at *
                generalize wyOf (rows.take j) ns = ln2 at *
                have yka := fun o => (cell_alloc (o := o) bkl).trans yk
                have WK := fun W => within_calls zk 1000001 W (by omega) (by omega)
                generalize within zk 1000001 = vk at *
                have eX := HX vk
                have eY := HY 300000
                rw [if_pos (by simpa using ha), List.append_nil] at eX
                rw [if_pos (by simpa using hb), List.append_nil] at eY
                clear HX HY
                have EW := E.alloc (.cells #[.int .i64 x.cls, .int .i64 x.yr, .int .i64 x.opn, .int .i64 x.mov, .int .i64 x.clo] 44)
                simp at EW
                go_wp2_with (first | (go_at_call 21; ((with_reducible refine (WK _).mono ?_)); rintro e w' ⟨rfl, rfl⟩) | (at_builtin; refine wpList_eapp 3 vk Try.underlying22 info_int (by repeat (first | (with_reducible exact EW) | (with_reducible apply Env.drew) | (with_reducible apply Env.drewN) | (with_reducible apply Env.alloc'))) (by rfl) oo j l1.out (by rfl) (by rfl) rfl 1 (by rfl) (by rfl) (heap_new_at (by simp)) (by rfl) (by omega) (by omega) ?_; intro CO2 co2 w5 ho2 oo2 E5) | (at_builtin; refine wpList_eapp 4 300000 Try.underlying22 info_int (by repeat (first | (with_reducible exact E5) | (with_reducible apply Env.drew) | (with_reducible apply Env.drewN) | (with_reducible apply Env.alloc'))) (by rfl) on j l2.out (by rfl) (by rfl) rfl 1 (by rfl) (by rfl) (heap_new_at (by simp)) (by rfl) (by omega) (by omega) ?_; intro CN2 cn2 w6 hn2 on2 E6; have r2 := E6.cell 7 rfl 2 rfl; have r4 := E6.cell 7 rfl 4 rfl))
                have EF := E6.drop 7
                simp at EF
                go_roundw
                case rel => exact ⟨j + 1, p, q, co2, cn2, d3, d4, CO2, CN2, CX, CY, os ++ [vk], ns ++ [300000], ho2, hn2, hp, hq, by omega, by go_num, rfl, rfl, rfl, rfl, HL1.out _, HL2.out _, by unfold Hid; rw [HT.out, eX.out]; exact l3.out, by unfold Hid; rw [HT.out, eY.out]; exact l4.out, by omega, by omega, oo2, on2, by rw [HT.out, eX.out]; exact op, by rw [HT.out, eY.out]; exact oq, EF⟩
                case measure => simp [intOf]; omega
          · rcases hz1 with ha | ha
            · rcases hz2 with hb | hb
              · skip
                generalize oxOf (rows.take j) os = lo at *
                generalize wyOf (rows.take j) ns = ln2 at *
                have yka := fun o => (cell_alloc (o := o) bkl).trans yk
                have WK := fun W => within_calls zk 1000001 W (by omega) (by omega)
                generalize within zk 1000001 = vk at *
                have yma := fun o => (cell_alloc (o := o) bml).trans ym
                have WM := fun W => within_calls zm 1000001 W (by omega) (by omega)
                generalize within zm 1000001 = vm at *
                have eX := HX vk
                have eY := HY vm
                rw [if_neg (by simpa using ha)] at eX
                rw [if_neg (by simpa using hb)] at eY
                clear HX HY
                have EW := E.alloc (.cells #[.int .i64 x.cls, .int .i64 x.yr, .int .i64 x.opn, .int .i64 x.mov, .int .i64 x.clo] 44)
                simp at EW
                go_wp2_with (first | (go_at_call 21; ((with_reducible refine (WK _).mono ?_)); rintro e w' ⟨rfl, rfl⟩) | (go_at_call 21; ((with_reducible refine (WM _).mono ?_)); rintro e w' ⟨rfl, rfl⟩) | (at_builtin; refine wpList_eapp 3 vk Try.underlying22 info_int (by repeat (first | (with_reducible exact EW) | (with_reducible apply Env.drew) | (with_reducible apply Env.drewN) | (with_reducible apply Env.alloc'))) (by rfl) oo j l1.out (by rfl) (by rfl) rfl 1 (by rfl) (by rfl) (heap_new_at (by simp)) (by rfl) (by omega) (by omega) ?_; intro CO2 co2 w5 ho2 oo2 E5) | (at_builtin; refine wpList_eapp 4 vm Try.underlying22 info_int (by repeat (first | (with_reducible exact E5) | (with_reducible apply Env.drew) | (with_reducible apply Env.drewN) | (with_reducible apply Env.alloc'))) (by rfl) on j l2.out (by rfl) (by rfl) rfl 1 (by rfl) (by rfl) (heap_new_at (by simp)) (by rfl) (by omega) (by omega) ?_; intro CN2 cn2 w6 hn2 on2 E6; have r2 := E6.cell 7 rfl 2 rfl; have r4 := E6.cell 7 rfl 4 rfl) | (at_builtin; refine wpList_eapp 5 vk Try.underlying22 info_int (by repeat (first | (with_reducible exact E6) | (with_reducible apply Env.drew) | (with_reducible apply Env.drewN) | (with_reducible apply Env.alloc'))) (by rfl) op p l3.out (by rfl) (by rfl) rfl 1 (by rfl) (by rfl) (heap_new_at (by simp)) (by rfl) (by omega) (by omega) ?_; intro CX2 cx2 w7 hp2 op2 E7; have r5 := E7.cell 7 rfl 4 rfl) | (at_builtin; refine wpList_eapp 6 vm Try.underlying22 info_int (by repeat (first | (with_reducible exact E7) | (with_reducible apply Env.drew) | (with_reducible apply Env.drewN) | (with_reducible apply Env.alloc'))) (by rfl) oq q l4.out (by rfl) (by rfl) rfl 1 (by rfl) (by rfl) (heap_new_at (by simp)) (by rfl) (by omega) (by omega) ?_; intro CY2 cy2 w8 hq2 oq2 E8))
                have EF := E8.drop 7
                simp at EF
                go_roundw
                case rel => exact ⟨j + 1, p + 1, q + 1, co2, cn2, cx2, cy2, CO2, CN2, CX2, CY2, os ++ [vk], ns ++ [vm], ho2, hn2, hp2, hq2, by omega, by go_num, rfl, rfl, rfl, rfl, HL1.out _, HL2.out _, by unfold Hid; rw [HT.out, eX.out]; rw [List.length_append, l3.out]; rfl, by unfold Hid; rw [HT.out, eY.out]; rw [List.length_append, l4.out]; rfl, by omega, by omega, oo2, on2, by rw [HT.out, eX.out]; exact op2, by rw [HT.out, eY.out]; exact oq2, EF⟩
                case measure => simp [intOf]; omega
              · skip
                generalize oxOf (rows.take j) os = lo at *
                generalize wyOf (rows.take j) ns = ln2 at *
                have yka := fun o => (cell_alloc (o := o) bkl).trans yk
                have WK := fun W => within_calls zk 1000001 W (by omega) (by omega)
                generalize within zk 1000001 = vk at *
                have yma := fun o => (cell_alloc (o := o) bml).trans ym
                have WM := fun W => within_calls zm 1000001 W (by omega) (by omega)
                generalize within zm 1000001 = vm at *
                have eX := HX vk
                have eY := HY vm
                rw [if_neg (by simpa using ha)] at eX
                rw [if_pos (by simpa using hb), List.append_nil] at eY
                clear HX HY
                have EW := E.alloc (.cells #[.int .i64 x.cls, .int .i64 x.yr, .int .i64 x.opn, .int .i64 x.mov, .int .i64 x.clo] 44)
                simp at EW
                go_wp2_with (first | (go_at_call 21; ((with_reducible refine (WK _).mono ?_)); rintro e w' ⟨rfl, rfl⟩) | (go_at_call 21; ((with_reducible refine (WM _).mono ?_)); rintro e w' ⟨rfl, rfl⟩) | (at_builtin; refine wpList_eapp 3 vk Try.underlying22 info_int (by repeat (first | (with_reducible exact EW) | (with_reducible apply Env.drew) | (with_reducible apply Env.drewN) | (with_reducible apply Env.alloc'))) (by rfl) oo j l1.out (by rfl) (by rfl) rfl 1 (by rfl) (by rfl) (heap_new_at (by simp)) (by rfl) (by omega) (by omega) ?_; intro CO2 co2 w5 ho2 oo2 E5) | (at_builtin; refine wpList_eapp 4 vm Try.underlying22 info_int (by repeat (first | (with_reducible exact E5) | (with_reducible apply Env.drew) | (with_reducible apply Env.drewN) | (with_reducible apply Env.alloc'))) (by rfl) on j l2.out (by rfl) (by rfl) rfl 1 (by rfl) (by rfl) (heap_new_at (by simp)) (by rfl) (by omega) (by omega) ?_; intro CN2 cn2 w6 hn2 on2 E6; have r2 := E6.cell 7 rfl 2 rfl; have r4 := E6.cell 7 rfl 4 rfl) | (at_builtin; refine wpList_eapp 5 vk Try.underlying22 info_int (by repeat (first | (with_reducible exact E6) | (with_reducible apply Env.drew) | (with_reducible apply Env.drewN) | (with_reducible apply Env.alloc'))) (by rfl) op p l3.out (by rfl) (by rfl) rfl 1 (by rfl) (by rfl) (heap_new_at (by simp)) (by rfl) (by omega) (by omega) ?_; intro CX2 cx2 w7 hp2 op2 E7; have r5 := E7.cell 7 rfl 4 rfl))
                have EF := E7.drop 7
                simp at EF
                go_roundw
                case rel => exact ⟨j + 1, p + 1, q, co2, cn2, cx2, d4, CO2, CN2, CX2, CY, os ++ [vk], ns ++ [vm], ho2, hn2, hp2, hq, by omega, by go_num, rfl, rfl, rfl, rfl, HL1.out _, HL2.out _, by unfold Hid; rw [HT.out, eX.out]; rw [List.length_append, l3.out]; rfl, by unfold Hid; rw [HT.out, eY.out]; exact l4.out, by omega, by omega, oo2, on2, by rw [HT.out, eX.out]; exact op2, by rw [HT.out, eY.out]; exact oq, EF⟩
                case measure => simp [intOf]; omega
            · rcases hz2 with hb | hb
              · skip
                generalize oxOf (rows.take j) os = lo at *
                generalize wyOf (rows.take j) ns = ln2 at *
                have yka := fun o => (cell_alloc (o := o) bkl).trans yk
                have WK := fun W => within_calls zk 1000001 W (by omega) (by omega)
                generalize within zk 1000001 = vk at *
                have yma := fun o => (cell_alloc (o := o) bml).trans ym
                have WM := fun W => within_calls zm 1000001 W (by omega) (by omega)
                generalize within zm 1000001 = vm at *
                have eX := HX vk
                have eY := HY vm
                rw [if_pos (by simpa using ha), List.append_nil] at eX
                rw [if_neg (by simpa using hb)] at eY
                clear HX HY
                have EW := E.alloc (.cells #[.int .i64 x.cls, .int .i64 x.yr, .int .i64 x.opn, .int .i64 x.mov, .int .i64 x.clo] 44)
                simp at EW
                go_wp2_with (first | (go_at_call 21; ((with_reducible refine (WK _).mono ?_)); rintro e w' ⟨rfl, rfl⟩) | (go_at_call 21; ((with_reducible refine (WM _).mono ?_)); rintro e w' ⟨rfl, rfl⟩) | (at_builtin; refine wpList_eapp 3 vk Try.underlying22 info_int (by repeat (first | (with_reducible exact EW) | (with_reducible apply Env.drew) | (with_reducible apply Env.drewN) | (with_reducible apply Env.alloc'))) (by rfl) oo j l1.out (by rfl) (by rfl) rfl 1 (by rfl) (by rfl) (heap_new_at (by simp)) (by rfl) (by omega) (by omega) ?_; intro CO2 co2 w5 ho2 oo2 E5) | (at_builtin; refine wpList_eapp 4 vm Try.underlying22 info_int (by repeat (first | (with_reducible exact E5) | (with_reducible apply Env.drew) | (with_reducible apply Env.drewN) | (with_reducible apply Env.alloc'))) (by rfl) on j l2.out (by rfl) (by rfl) rfl 1 (by rfl) (by rfl) (heap_new_at (by simp)) (by rfl) (by omega) (by omega) ?_; intro CN2 cn2 w6 hn2 on2 E6; have r2 := E6.cell 7 rfl 2 rfl; have r4 := E6.cell 7 rfl 4 rfl) | (at_builtin; refine wpList_eapp 6 vm Try.underlying22 info_int (by repeat (first | (with_reducible exact E6) | (with_reducible apply Env.drew) | (with_reducible apply Env.drewN) | (with_reducible apply Env.alloc'))) (by rfl) oq q l4.out (by rfl) (by rfl) rfl 1 (by rfl) (by rfl) (heap_new_at (by simp)) (by rfl) (by omega) (by omega) ?_; intro CY2 cy2 w8 hq2 oq2 E8))
                have EF := E8.drop 7
                simp at EF
                go_roundw
                case rel => exact ⟨j + 1, p, q + 1, co2, cn2, d3, cy2, CO2, CN2, CX, CY2, os ++ [vk], ns ++ [vm], ho2, hn2, hp, hq2, by omega, by go_num, rfl, rfl, rfl, rfl, HL1.out _, HL2.out _, by unfold Hid; rw [HT.out, eX.out]; exact l3.out, by unfold Hid; rw [HT.out, eY.out]; rw [List.length_append, l4.out]; rfl, by omega, by omega, oo2, on2, by rw [HT.out, eX.out]; exact op, by rw [HT.out, eY.out]; exact oq2, EF⟩
                case measure => simp [intOf]; omega
              · skip
                generalize oxOf (rows.take j) os = lo at *
                generalize wyOf (rows.take j) ns = ln2 at *
                have yka := fun o => (cell_alloc (o := o) bkl).trans yk
                have WK := fun W => within_calls zk 1000001 W (by omega) (by omega)
                generalize within zk 1000001 = vk at *
                have yma := fun o => (cell_alloc (o := o) bml).trans ym
                have WM := fun W => within_calls zm 1000001 W (by omega) (by omega)
                generalize within zm 1000001 = vm at *
                have eX := HX vk
                have eY := HY vm
                rw [if_pos (by simpa using ha), List.append_nil] at eX
                rw [if_pos (by simpa using hb), List.append_nil] at eY
                clear HX HY
                have EW := E.alloc (.cells #[.int .i64 x.cls, .int .i64 x.yr, .int .i64 x.opn, .int .i64 x.mov, .int .i64 x.clo] 44)
                simp at EW
                go_wp2_with (first | (go_at_call 21; ((with_reducible refine (WK _).mono ?_)); rintro e w' ⟨rfl, rfl⟩) | (go_at_call 21; ((with_reducible refine (WM _).mono ?_)); rintro e w' ⟨rfl, rfl⟩) | (at_builtin; refine wpList_eapp 3 vk Try.underlying22 info_int (by repeat (first | (with_reducible exact EW) | (with_reducible apply Env.drew) | (with_reducible apply Env.drewN) | (with_reducible apply Env.alloc'))) (by rfl) oo j l1.out (by rfl) (by rfl) rfl 1 (by rfl) (by rfl) (heap_new_at (by simp)) (by rfl) (by omega) (by omega) ?_; intro CO2 co2 w5 ho2 oo2 E5) | (at_builtin; refine wpList_eapp 4 vm Try.underlying22 info_int (by repeat (first | (with_reducible exact E5) | (with_reducible apply Env.drew) | (with_reducible apply Env.drewN) | (with_reducible apply Env.alloc'))) (by rfl) on j l2.out (by rfl) (by rfl) rfl 1 (by rfl) (by rfl) (heap_new_at (by simp)) (by rfl) (by omega) (by omega) ?_; intro CN2 cn2 w6 hn2 on2 E6; have r2 := E6.cell 7 rfl 2 rfl; have r4 := E6.cell 7 rfl 4 rfl))
                have EF := E6.drop 7
                simp at EF
                go_roundw
                case rel => exact ⟨j + 1, p, q, co2, cn2, d3, d4, CO2, CN2, CX, CY, os ++ [vk], ns ++ [vm], ho2, hn2, hp, hq, by omega, by go_num, rfl, rfl, rfl, rfl, HL1.out _, HL2.out _, by unfold Hid; rw [HT.out, eX.out]; exact l3.out, by unfold Hid; rw [HT.out, eY.out]; exact l4.out, by omega, by omega, oo2, on2, by rw [HT.out, eX.out]; exact op, by rw [HT.out, eY.out]; exact oq, EF⟩
                case measure => simp [intOf]; omega
      · obtain rfl : j = rows.length := by omega
        rw [List.take_length] at l3 l4 op oq
        have L1 := Lib.hid l1.out
        have TPx := TP os ns
        have C1 := fun (W : World) (l : List Hp) (E : Env w W l) (s1 : hx.sub W) (s2 : hy.sub W) (s3 : ho.sub W) (s4 : hn.sub W) => Rem.temp E ox.sl s1 oy.sl s2 oo.sl s3 on.sl s4 (by omega) (by omega) _ _ _ _ rfl rfl l1.out l2.out HF rfl rfl rfl
        have C5 := fun (W : World) (l : List Hp) (E : Env w W l) (s1 : hx.sub W) (s3 : hp.sub W) => Rem.mea E ox.sl s1 op.sl s3 (by omega) _ _ rfl l3.out rfl rfl
        have C6 := fun (W : World) (l : List Hp) (E : Env w W l) (s1 : hy.sub W) (s3 : hq.sub W) => Rem.mea E oy.sl s1 oq.sl s3 (by omega) _ _ rfl l4.out rfl rfl
        obtain ⟨bn1, bn2⟩ := meaN_bd xs (oxOf rows os)
        obtain ⟨bn3, bn4⟩ := meaN_bd ys (wyOf rows ns)
        clear TP HF hlt
        generalize remMo rows os ns = M at *
        generalize remRa rows os ns = R at *
        generalize remE rows os ns = Q1 at *
        generalize meaN xs (oxOf rows os) = N5 at *
        generalize meaE xs (oxOf rows os) = Q5 at *
        generalize meaN ys (wyOf rows ns) = N6 at *
        generalize meaE ys (wyOf rows ns) = Q6 at *
        have TC := fun (W : World) (l : List Hp) (E : Env w W l) => Rem.total E M R rfl
        obtain ⟨wo, rfl⟩ : ∃ wo : World, wo = wr := ⟨_, rfl⟩
        have t1 : (Q1 != 0) = true ∨ (Q1 != 0) = false ∧ ((Q5 != 0) = true ∨ (Q5 != 0) = false ∧ ((Q6 != 0) = true ∨ (Q6 != 0) = false ∧ (wrap64 (M + R) == N5 - N6) = true)) := by
          by_cases a : Q1 = 0
          · right
            refine ⟨by simp [a], ?_⟩
            by_cases b : Q5 = 0
            · right
              refine ⟨by simp [b], ?_⟩
              by_cases c : Q6 = 0
              · right
                have := TPx a b c
                refine ⟨by simp [c], ?_⟩
                rw [this, wrap64_small (by omega)]; simp
              · left; simpa using c
            · left; simpa using b
          · left; simpa using a
        clear TPx
        generalize wrap64 (M + R) = T at *
        go_wp2_with fail
        refine (C1 _ _ E (E.sub 0 rfl) (E.sub 1 rfl) (E.sub 3 rfl) (E.sub 4 rfl)).mono ?_
        rintro e w5 ⟨rfl, E5⟩
        have E6 := E5.alloc (.cells #[.int .i64 M, .int .i64 R] 52)
        simp at E6
        go_wp2_with fail
        refine (C5 _ _ E6 (E6.sub 0 rfl) (E6.sub 5 rfl)).mono ?_
        rintro e w7 ⟨rfl, E7⟩
        go_wp2_with fail
        refine (C6 _ _ E7 (E7.sub 1 rfl) (E7.sub 6 rfl)).mono ?_
        rintro e w8 ⟨rfl, E8⟩
        have k0 := E8.cell 7 rfl 0 rfl
        have k1 := E8.cell 7 rfl 1 rfl
        clear C1 C5 C6
        rcases t1 with t1 | ⟨t1, t2 | ⟨t2, t3 | ⟨t3, t4⟩⟩⟩
        case inr.inr.inr =>
          go_wp2_with fail
          refine (TC _ _ E8).mono ?_
          rintro e w9 ⟨rfl, E9⟩
          go_wp2_with fail
          refine (wakes17 _).mono ?_
          rintro e w20 ⟨rfl, b20⟩
          go_wp2
          go_ret
          exact ⟨rfl, E9.low.trans (b20.mono E9.low.size)⟩
        all_goals
          go_wp2_with fail
          refine (wakes17 _).mono ?_
          rintro e w20 ⟨rfl, b20⟩
          go_wp2
          go_ret
          exact ⟨rfl, E8.low.trans (b20.mono E8.low.size)⟩
end Go.Proofs.Ythcapomobidnbaa
end
namespace Go.Proofs.Ythcapomobidnbaa.remeasureTotal
open Go.ChangeShapes Go.WideShapes Go.ChangeAt Go.RowKit Go.Sl
set_option linter.unusedVariables false
set_option maxRecDepth 100000
theorem lifted (os : Os) (started : os.Started) (H : Type) (enc : TypeId × Value → H) :
    ReturnsInHanded {} Try.checked os 11 .any (Rows.remeasureTotalSpec.pre6 enc Try.prog Try.f11 Rows.remeasureTotalRow.domain false) (Rows.remeasureTotalSpec.post enc Try.prog Try.f11 false true false false) := by
  refine returnsInHanded_of_change_sized (C := Try.checked) Lift.own started (by kernel_rfl) Try.func11
    (ChangeSpec.witness6 (enc := enc) (C := Try.checked) false ⟨#[], #[.slice none 0 0, .slice none 0 0, .slice none 0 0, .slice none 0 0], []⟩ 8 (by kernel_rfl) (by kernel_rfl) (by kernel_rfl) (by kernel_rfl)) ?_
  intro W base args ds gs before hval0 hW hcnd hsz0 _
  have hval : ∀ (j : Nat) t v, Try.f11.params[j]? = some t → args[j]? = some v → Value.okWide Try.prog W .any base t v := hval0
  have hW' := hW
  obtain ⟨p, q, hA0, hV, rfl, hfz, hnd⟩ := hW
  have hA : DataW.TrodAll enc Try.prog W 0 (fun _ => true) true Try.f11.params.toList args.toList ds p := hA0
  rw [Try.params11] at hA hval
  obtain ⟨v0, vs0, d0, ds0, p0, q0, hargs, rfl, rfl, h0, r0⟩ := trodAll_cons hA
  obtain ⟨v1, vs1, d1, ds1, p1, q1, rfl, rfl, rfl, h1, r1⟩ := trodAll_cons r0
  obtain ⟨v2, vs2, d2, ds2, p2, q2, rfl, rfl, rfl, h2, r2⟩ := trodAll_cons r1
  obtain ⟨v3, vs3, d3, ds3, p3, q3, rfl, rfl, rfl, h3, r3⟩ := trodAll_cons r2
  obtain ⟨rfl, rfl, rfl⟩ := trodAll_nil r3
  obtain rfl : args = #[v0, v1, v2, v3] := by cases args; simp_all
  obtain ⟨rfl, rfl⟩ := trodVars_none hV
  have k0 := h0
  have lt0 : ∀ x ∈ p0, x.block < W.heap.size := by obtain ⟨m, hm⟩ := k0; exact DataW.trod_lt m _ _ _ hm
  obtain ⟨A0, c0, z0, rfl, s0, w0⟩ := Lift.ints_of (hval 0 22 v0 rfl rfl) h0
  have k1 := h1
  have lt1 : ∀ x ∈ p1, x.block < W.heap.size := by obtain ⟨m, hm⟩ := k1; exact DataW.trod_lt m _ _ _ hm
  obtain ⟨A1, c1, z1, rfl, s1, w1⟩ := Lift.ints_of (hval 1 22 v1 rfl rfl) h1
  have k2 := h2
  have lt2 : ∀ x ∈ p2, x.block < W.heap.size := by obtain ⟨m, hm⟩ := k2; exact DataW.trod_lt m _ _ _ hm
  obtain ⟨A2, c2, z2, rfl, s2, w2⟩ := Lift.ints_of (hval 2 22 v2 rfl rfl) h2
  have k3 := h3
  have lt3 : ∀ x ∈ p3, x.block < W.heap.size := by obtain ⟨m, hm⟩ := k3; exact DataW.trod_lt m _ _ _ hm
  obtain ⟨A3, c3, z3, rfl, s3, w3⟩ := Lift.ints_of (hval 3 22 v3 rfl rfl) h3
  clear hA0 hval0 hsz0
  refine (remeasureTotal_calls A0 A1 A2 A3 c0 c1 c2 c3 z0 z1 z2 z3 (Hp.all W) (Hp.all W) (Hp.all W) (Hp.all W) W (Hp.all_sub W) (Hp.all_sub W) (Hp.all_sub W) (Hp.all_sub W) s0 s1 s2 s3 w0 w1).mono fun e W' ⟨he, bel⟩ => ?_
  subst he
  exact ⟨_, rfl, _, _, _, [], _, [], hW', trodAll_mk1 (shut_bool Try.underlying4 _), (trodAll_cons_mk (Below.trod Lift.laidOut (by kernel_rfl) (of_decide_eq_true (by kernel_rfl)) k0 bel lt0) (trodAll_cons_mk (Below.trod Lift.laidOut (by kernel_rfl) (of_decide_eq_true (by kernel_rfl)) k1 bel lt1) (trodAll_cons_mk (Below.trod Lift.laidOut (by kernel_rfl) (of_decide_eq_true (by kernel_rfl)) k2 bel lt2) (trodAll_cons_mk (Below.trod Lift.laidOut (by kernel_rfl) (of_decide_eq_true (by kernel_rfl)) k3 bel lt3) trodAll_mk0)))), rfl, bel.frame _, fun h => by cases h⟩
theorem over : Rows.remeasureTotalRow.holds Try.pinned (OpenSpec.ofChange Rows.remeasureTotalSpec) :=
  OpenClaim.holds_of_wide 11 Try.f11 rfl rfl rfl rfl rfl rfl rfl ⟨rfl, rfl, rfl, rfl, rfl⟩ rfl rfl rfl rfl rfl (by kernel_rfl) Try.func11 (by kernel_rfl)
    (of_decide_eq_true (by kernel_rfl)) (by unfold Func.isWrapper; first | (rw [if_pos (by decide +kernel)]; kernel_rfl) | (rw [if_neg (by decide +kernel)]; exact ⟨rfl, rfl⟩))
    (fun os started H enc _ => lifted os started H enc)
end Go.Proofs.Ythcapomobidnbaa.remeasureTotal
namespace Go.Proofs.Ythcapomobidnbaa
theorem remeasureTotal_holds : Rows.RemeasureTotalSaid := remeasureTotal.over
#print axioms remeasureTotal_holds
end Go.Proofs.Ythcapomobidnbaa
