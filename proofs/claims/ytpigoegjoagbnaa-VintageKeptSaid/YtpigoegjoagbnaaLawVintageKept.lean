/- The law VintageKept: for every input it returns true, and its arguments read behind the call as before it. No conditions. -/
import Derived.Test.YtpigoegjoagbnaaPk5
import Derived.OwnWalk
import Derived.Deep.DeepCutAuto
import Derived.Deep.CutBlock
section
/- The walk of law13.VintageKept. -/
namespace Go.Sl.VK
theorem add_sum {l : List STri} (g : GoodV l) {o e n : Int} (h : vAddE l o e n = 0) : sumC (vAdd l o e n) = sumC l + n := by
  unfold vAdd; rw [if_pos h, sumC_put g.rise]; omega
theorem exp_sum (l : List STri) (y : Int) : vGone l y + sumC (vExp l y) = sumC l := sumC_filter (overV y)
theorem take_sum {l : List STri} {us : List Int} (hl : us.length = l.length) (h : vTakeE l us = 0) : sumC (vTake l us) = sumC l - us.sum := by
  unfold vTake; rw [if_pos h, sumC_nz, sumC_less l us hl]
end Go.Sl.VK
namespace Go.Proofs.Ytpigoegjoagbnaa
open Go.RowKit Go.Sl
set_option maxHeartbeats 4000000
set_option maxRecDepth 100000
theorem vintKept_calls (A : Option Addr) (ca : Nat) (xs : List SVA) (k1 : Hp) (w : World) (hs1 : k1.sub w) (s1 : Sl kVA k1 A ca xs) (hz : ∀ z ∈ xs, (∀ j, j < 4 → I64 (z.f j)) ∧ ∀ u ∈ z.us, I64 u) :
    Calls Try.prog 5 #[.slice A xs.length ca] w fun e w' => e = .returned (.bool true) ∧ Below w.heap.size w w' := by
  have E0 := Env.start w
  have m1 := s1.small
  have HZ := Lib.hid hz
  clear hz
  go_enter Try.func5, Try.ntmps5
  go_wp2_with fail
  refine (Vnt.new E0).mono ?_
  rintro e w1 ⟨h1, c1, rfl, S1, E1⟩
  try simp at E1
  go_wp2_with fail
  go_loopw [4, 5, 6] (fun a b i wr => ∃ (j : Nat) (h : Hp) (l : List STri) (came gone : Int), j ≤ 24 ∧ j ≤ xs.length ∧ i = .int .i64 j ∧ a = .int .i64 came ∧ b = .int .i64 gone ∧ came = gone + sumC l ∧ 0 ≤ gone ∧ came ≤ 100000 * j ∧ Vnt h c1 l ∧ Env w wr [h]) (fun _ _ i _ => 24 - (intOf i).toNat)
  case atStart => exact ⟨0, _, [], 0, 0, by omega, by omega, rfl, rfl, rfl, by simp [sumC], by omega, by omega, S1, E1⟩
  case round =>
    clear S1 E1
    obtain ⟨j, h, l, came, gone, hj, hjl, rfl, rfl, rfl, hcame0, hgone0, hle0, S, E⟩ := hrel
    have HC := Lib.hid hcame0
    by_cases hlt : j < xs.length ∧ j < 24
    · obtain ⟨hlt, hl2⟩ := hlt
      obtain ⟨x, hx⟩ := some_of_lt hlt
      obtain ⟨ba, oa, U, cu, rfl, su, d0, d1, d2, d3, d4⟩ := s1.va (hs1.of_below E.low) hx
      have i1 : (0 : Int) ≤ (j : Int) := by omega
      have i2 : (j : Int) < (xs.length : Int) := by omega
      have i3 : (j : Int) < 24 := by omega
      have gl := S.good
      have hsp := sumC_pos gl.lo
      have hgm := gl.mon
      have hgl := gl.len
      have r1 := within_lo (x.f 0) (n := 4) (by omega)
      have r2 := within_hi (x.f 0) (n := 4) (by omega)
      have W0 := fun W => within_calls (x.f 0) 4 W (by omega) (by omega)
      have a1 := within_lo (x.f 1) (n := 8) (by omega)
      have a2 := within_hi (x.f 1) (n := 8) (by omega)
      have W1 := fun W => within_calls (x.f 1) 8 W (by omega) (by omega)
      have a3 := within_lo (x.f 2) (n := 6) (by omega)
      have a4 := within_hi (x.f 2) (n := 6) (by omega)
      have W2 := fun W => within_calls (x.f 2) 6 W (by omega) (by omega)
      have W3 := fun W => within_calls (x.f 2) 12 W (by omega) (by omega)
      have a5 := within_lo (x.f 3) (n := 100000) (by omega)
      have a6 := within_hi (x.f 3) (n := 100000) (by omega)
      have W4 := fun W => within_calls (x.f 3) 100000 W (by omega) (by omega)
      generalize within (x.f 0) 4 = r0 at *
      generalize within (x.f 1) 8 = o at *
      generalize within (x.f 2) 6 = li at *
      generalize within (x.f 2) 12 = yy at *
      generalize within (x.f 3) 100000 = vn at *
      clear hcame0
      go_upto_region 9 with fail
      replace E := E.alloc (.cells #[.int .i64 (x.f 0), .int .i64 (x.f 1), .int .i64 (x.f 2), .int .i64 (x.f 3), .slice U x.us.length cu] 28)
      simp at E
      obtain ⟨W, hW⟩ : ∃ W : World, W = wr.alloc (.cells #[.int .i64 (x.f 0), .int .i64 (x.f 1), .int .i64 (x.f 2), .int .i64 (x.f 3), .slice U x.us.length cu] 28) := ⟨_, rfl⟩
      rw [← hW] at E
      rw [← hW]
      clear hW
      have q0 := E.cell 1 rfl 0 rfl
      have q1 := E.cell 1 rfl 1 rfl
      have q2 := E.cell 1 rfl 2 rfl
      have q3 := E.cell 1 rfl 3 rfl
      have q4 := E.cell 1 rfl 4 rfl
      generalize wr.heap.size = bw at *
      go_wp2_with fail
      refine (W0 _).mono ?_
      rintro e w' ⟨rfl, rfl⟩
      obtain ⟨n, hn⟩ : ∃ n, 1 + vn = n := ⟨_, rfl⟩
      go_upto_block 2 with fail
      go_cut [4, 5] (fun a b wx => ∃ (came9 gone9 : Int) (h9 : Hp) (L9 : List STri), a = .int .i64 came9 ∧ b = .int .i64 gone9 ∧ Hid (came9 = gone9 + sumC L9) ∧ 0 ≤ gone9 ∧ came9 ≤ 100000 * ((j + 1 : Nat) : Int) ∧ Vnt h9 c1 L9 ∧ Env w wx [h9])
      case first =>
        rcases (show r0 < 2 ∨ r0 = 2 ∨ r0 = 3 by omega) with h2 | rfl | rfl
        case inl =>
          have hnn : 1 ≤ n ∧ n ≤ 100000 := by omega
          rcases (show r0 = 0 ∨ r0 = 1 by omega) with rfl | rfl
          all_goals
            go_wp2_with fail
            refine (W4 _).mono ?_
            rintro e w' ⟨rfl, rfl⟩
            go_wp2_with fail
            refine (W1 _).mono ?_
            rintro e w' ⟨rfl, rfl⟩
            go_wp2_with fail
            refine (W2 _).mono ?_
            rintro e w' ⟨rfl, rfl⟩
            rcases Int.decEq (vAddE l o (o + li) n) 0 with hE | hE
            · have t1 : (vAddE l o (o + li) n == 0) = false := by simpa using hE
              have hL := vAdd_no rfl hE
              go_wp2_with fail
              refine (Vnt.add S E 0 rfl _ _ _ ⟨rfl, hL⟩).mono ?_
              rintro e w9 ⟨h9, rfl, S9, E9'⟩
              have E9 := E9'.drop 1
              simp at E9
              clear hL
              go_wp2_with fail
              go_meet
              exact ⟨_, _, h9, l, rfl, rfl, HC, hgone0, by omega, S9, E9⟩
            · have hL := VK.add_sum gl hE
              go_wp2_with fail
              refine (Vnt.add S E 0 rfl _ _ _ ⟨hE, rfl⟩).mono ?_
              rintro e w9 ⟨h9, rfl, S9, E9'⟩
              have E9 := E9'.drop 1
              simp at E9
              generalize vAdd l o (o + li) n = L9 at *
              have hclo : 0 ≤ came := by have := HC.out; omega
              have hwcn : IntKind.i64.wrap (came + n) = came + n := by rw [IntKind.wrap_i64]; omega
              have HCm : Hid (came + n = gone + sumC L9) := by unfold Hid; rw [hL, HC.out]; omega
              clear hL hE
              go_wp2_with fail
              go_meet
              exact ⟨_, _, h9, L9, rfl, rfl, HCm, hgone0, by omega, S9, E9⟩
        case inr.inl =>
          have hsum := VK.exp_sum l yy
          have hvp := sumC_pos (gl.exp yy).lo
          have hvg : 0 ≤ vGone l yy := by
            have := sumC_pos (l := l.filter (overV yy)) fun x hx => gl.lo x (List.mem_filter.1 hx).1
            unfold vGone; omega
          go_wp2_with fail
          refine (W3 _).mono ?_
          rintro e w' ⟨rfl, rfl⟩
          go_wp2_with fail
          refine (Vnt.exp S E 0 rfl _ ⟨rfl, rfl⟩).mono ?_
          rintro e w9 ⟨h9, rfl, S9, E9'⟩
          have E9 := E9'.drop 1
          simp at E9
          generalize vExp l yy = L9 at *
          generalize vGone l yy = vg at *
          have hcm0 := HC.out
          have hwcn : IntKind.i64.wrap (gone + vg) = gone + vg := by rw [IntKind.wrap_i64]; omega
          have HCm : Hid (came = gone + vg + sumC L9) := by unfold Hid; omega
          clear hcm0 hsum
          go_wp2_with fail
          go_meet
          exact ⟨_, _, h9, L9, rfl, rfl, HCm, by omega, by omega, S9, E9⟩
        case inr.inr =>
          have lmx : l.length ≤ 1000000 := by omega
          have hmk := fun W => make_ints l.length lmx W
          have lus := su.small
          go_wp2_with fail
          refine (Vnt.rows S E 0 rfl l.length rfl).mono ?_
          rintro e w3 ⟨C3, n3, h3, rfl, o3, E3⟩
          simp at E3
          have lm3 := o3.small
          have E4 := E3.alloc (.cells (madeInts l.length) 3)
          simp at E4
          have oU : Ow kInt (Hp.one w3.heap.size (.cells (madeInts l.length) 3)) (some ⟨w3.heap.size, 0, none⟩) l.length (List.replicate l.length 0) := Ow.made (Hp.one_self _ _) (by unfold maxLen; omega)
          clear E3
          go_wp2_with fail
          generalize w3.heap.size = bU at *
          go_loopw [12, 46] (fun s i wr => ∃ (q : Nat) (us : List Int) (hU : Hp), q ≤ l.length ∧ i = .int .i64 q ∧ s = .int .i64 (us.take q).sum ∧ Hid (us.length = l.length) ∧ Hid (∀ (i : Nat) (x : STri) (u : Int), i < q → l[i]? = some x → us[i]? = some u → 0 ≤ u ∧ u ≤ x.c) ∧ 0 ≤ (us.take q).sum ∧ (us.take q).sum ≤ sumC (l.take q) ∧ Ow kInt hU (some ⟨bU, 0, none⟩) l.length us ∧ Env w wr [h, Hp.box bw [.int .i64 (x.f 0), .int .i64 (x.f 1), .int .i64 (x.f 2), .int .i64 (x.f 3), .slice U x.us.length cu] 28, h3, hU]) (fun _ i _ => l.length - (intOf i).toNat)
          case atStart => exact ⟨0, List.replicate l.length 0, _, by omega, rfl, by simp, by unfold Hid; simp, fun i x u h => absurd h (by omega), by simp, by simp [sumC], oU, E4⟩
          case round =>
            clear E4 oU
            obtain ⟨q, us, hU, hq, rfl, rfl, hul, hub, hlo, hhi, oU, E5⟩ := hrel
            by_cases hlq : q < l.length
            · obtain ⟨z, hz⟩ := some_of_lt hlq
              obtain ⟨v, hv⟩ := some_of_lt (show q < us.length by rw [hul.out]; exact hlq)
              obtain ⟨bx, ox, rfl, f0, f1, f2⟩ := o3.sl.tri (E5.sub 2 rfl) hz
              have k4 := E5.cell 1 rfl 4 rfl
              have hfU := oU.cell_free (E5.sub 3 rfl) (by rw [hul.out]; omega)
              have hzc := gl.lo z (List.mem_of_getElem? hz.out)
              have hzl := le_sumC gl.lo (List.mem_of_getElem? hz.out)
              have hst := sumC_take_le gl.lo q
              have hsn := sumC_take_le gl.lo (q + 1)
              have hss : sumC (l.take (q + 1)) = sumC (l.take q) + z.c := by rw [take_next hz, sumC_snoc]
              have i5 : (0 : Int) ≤ (q : Int) := by omega
              have i6 : (q : Int) < (l.length : Int) := by omega
              have SET := fun (r : Int) => Ow.set (x' := r) (v := .int .i64 r) (j := 0) oU (E5.sub 3 rfl) hv.out (by decide) rfl
              have HUL : ∀ r : Int, Hid ((us.set q r).length = l.length) := fun r => by unfold Hid; rw [List.length_set]; exact hul.out
              have HUB : ∀ r : Int, 0 ≤ r → r ≤ z.c → Hid (∀ (i : Nat) (x : STri) (u : Int), i < q + 1 → l[i]? = some x → (us.set q r)[i]? = some u → 0 ≤ u ∧ u ≤ x.c) := fun r h1 h2 i x' u' hi e1 e2 => by
                by_cases h3 : i = q
                · subst h3
                  rw [List.getElem?_set_self (by rw [hul.out]; exact hlq)] at e2
                  rw [hz.out] at e1; cases e1; cases e2; exact ⟨h1, h2⟩
                · rw [List.getElem?_set_ne (by omega)] at e2
                  exact hub.out i x' u' (by omega) e1 e2
              have HUS : ∀ r : Int, Hid (((us.set q r).take (q + 1)).sum = (us.take q).sum + r) := fun r => by
                unfold Hid
                have h1 : Hid ((us.set q r)[q]? = some r) := List.getElem?_set_self (by rw [hul.out]; exact hlq)
                rw [take_next h1, List.sum_append, List.take_set_of_le (by omega)]; simp
              generalize (us.take q).sum = sq at *
              have hwz : IntKind.i64.wrap (z.c + 1) = z.c + 1 := by rw [IntKind.wrap_i64]; omega
              by_cases hqu : q < x.us.length
              · obtain ⟨u, hu⟩ := some_of_lt hqu
                obtain ⟨bu, ou, rfl, cU⟩ := su.int (hs1.of_below E5.low) hu
                have i7 : (q : Int) < (x.us.length : Int) := by omega
                have tq : decide ((q : Int) < (x.us.length : Int)) = true := by simp; omega
                have WU := fun W => within_calls u (z.c + 1) W (by omega) (by omega)
                have u1 := within_lo u (n := z.c + 1) (by omega)
                have u2 := within_hi u (n := z.c + 1) (by omega)
                generalize within u (z.c + 1) = r at *
                obtain ⟨hU', oU', uU'⟩ := SET r
                have E6 := E5.upd 3 rfl uU'
                simp at E6
                have hwr : IntKind.i64.wrap (sq + r) = sq + r := by rw [IntKind.wrap_i64]; omega
                have cV : wr.cell? ⟨bU, q, none⟩ = some (.int .i64 v) := by
                  obtain ⟨b', o', e, h1⟩ := oU.sl.int (E5.sub 3 rfl) hv
                  cases e
                  simpa using h1
                go_wp2_with fail
                refine (WU _).mono ?_
                rintro e w' ⟨rfl, rfl⟩
                have HUr := HUS r
                have HUlr := HUL r
                have HUbr := HUB r u1 (by omega)
                have hlo' : 0 ≤ ((us.set q r).take (q + 1)).sum := by rw [HUr.out]; omega
                have hhi' : ((us.set q r).take (q + 1)).sum ≤ sumC (l.take (q + 1)) := by rw [HUr.out, hss]; omega
                clear HUS HUL HUB SET hss hsn hst uU' oU
                go_wp2
                go_roundw
                case rel => exact ⟨q + 1, us.set q r, hU', by omega, by go_num, by rw [HUr.out], HUlr, HUbr, hlo', hhi', oU', E6⟩
                case measure => simp [intOf]; omega
              · have tq : decide ((q : Int) < (x.us.length : Int)) = false := by simp; omega
                have WU := fun W => within_calls 0 (z.c + 1) W (by omega) (by omega)
                have u1 := within_lo 0 (n := z.c + 1) (by omega)
                have u2 := within_hi 0 (n := z.c + 1) (by omega)
                generalize within 0 (z.c + 1) = r at *
                obtain ⟨hU', oU', uU'⟩ := SET r
                have E6 := E5.upd 3 rfl uU'
                simp at E6
                have hwr : IntKind.i64.wrap (sq + r) = sq + r := by rw [IntKind.wrap_i64]; omega
                have cV : wr.cell? ⟨bU, q, none⟩ = some (.int .i64 v) := by
                  obtain ⟨b', o', e, h1⟩ := oU.sl.int (E5.sub 3 rfl) hv
                  cases e
                  simpa using h1
                go_wp2_with fail
                refine (WU _).mono ?_
                rintro e w' ⟨rfl, rfl⟩
                have HUr := HUS r
                have HUlr := HUL r
                have HUbr := HUB r u1 (by omega)
                have hlo' : 0 ≤ ((us.set q r).take (q + 1)).sum := by rw [HUr.out]; omega
                have hhi' : ((us.set q r).take (q + 1)).sum ≤ sumC (l.take (q + 1)) := by rw [HUr.out, hss]; omega
                clear HUS HUL HUB SET hss hsn hst uU' oU
                go_wp2
                go_roundw
                case rel => exact ⟨q + 1, us.set q r, hU', by omega, by go_num, by rw [HUr.out], HUlr, HUbr, hlo', hhi', oU', E6⟩
                case measure => simp [intOf]; omega
            · obtain rfl : q = l.length := by omega
              rw [List.take_of_length_le (by rw [hul.out]; omega)]
              rw [List.take_of_length_le (by rw [hul.out]; omega)] at hlo hhi
              rw [List.take_length] at hhi
              have hTE : vTakeE l us = 0 := takeE_ok hul.out fun i x u h1 h2 => by
                have := hub.out i x u (List.getElem?_eq_some_iff.1 h1).1 h1 h2
                simp [badU]; omega
              have hbz : ∀ u ∈ us, I64 u := fun u hu => by
                obtain ⟨i, hi⟩ := List.mem_iff_getElem?.1 hu
                have hil : i < l.length := by rw [← hul.out]; exact (List.getElem?_eq_some_iff.1 hi).1
                obtain ⟨x9, hx9⟩ := some_of_lt hil
                have h1 := hub.out i x9 u hil hx9.out hi
                have h2 := le_sumC gl.lo (List.mem_of_getElem? hx9.out)
                exact ⟨by omega, by omega⟩
              have hTS := VK.take_sum hul.out hTE
              have hcm0 := HC.out
              have HCm : Hid (came = gone + us.sum + sumC (vTake l us)) := by unfold Hid; omega
              have hwu : IntKind.i64.wrap (gone + us.sum) = gone + us.sum := by rw [IntKind.wrap_i64]; omega
              clear hcm0 hTS
              go_wp2_with fail
              refine (Vnt.take S E5 0 rfl (E5.sub 3 rfl) oU.sl hbz l.length hul.out ⟨hTE, rfl⟩).mono ?_
              rintro e w7 ⟨h9, rfl, S9, E7⟩
              have E9 := ((E7.drop 3).drop 2).drop 1
              simp at E9
              clear hTE
              go_wp2_with fail
              go_meet
              exact ⟨_, _, h9, _, rfl, rfl, HCm, by omega, by omega, S9, E9⟩
      case rest =>
        obtain ⟨came9, gone9, h9, L9, rfl, rfl, HCm, hgone, hle9, S9, E9⟩ := hcut
        clear S E HC hgone0 hle0 gl hsp hgm hgl W0 W1 W2 W3 W4 su d0 d1 d2 d3 d4
        have gL := S9.good
        have hs9 := sumC_pos gL.lo
        have hm9 := gL.mon
        have hl9 := gL.len
        go_wp2_with fail
        refine (Vnt.rows S9 E9 0 rfl L9.length rfl).mono ?_
        rintro e w20 ⟨C20, n20, h20, rfl, o20, E20⟩
        simp at E20
        have lm20 := o20.small
        go_wp2_with fail
        go_loopw [15, 120] (fun s i wr => ∃ (q : Nat), q ≤ L9.length ∧ i = .int .i64 q ∧ s = .int .i64 (sumC (L9.take q)) ∧ Env w wr [h9, h20]) (fun _ i _ => L9.length - (intOf i).toNat)
        case atStart => exact ⟨0, by omega, rfl, rfl, E20⟩
        case round =>
          clear E20 E9
          obtain ⟨q, hq, rfl, rfl, E⟩ := hrel
          by_cases hlq : q < L9.length
          · obtain ⟨z, hz⟩ := some_of_lt hlq
            obtain ⟨bx, ox, rfl, f0, f1, f2⟩ := o20.sl.tri (E.sub 1 rfl) hz
            have i1 : (0 : Int) ≤ (q : Int) := by omega
            have i2 : (q : Int) < (L9.length : Int) := by omega
            have hsq := sumC_take_le gL.lo q
            have hzc := gL.lo z (List.mem_of_getElem? hz.out)
            have hzl := le_sumC gL.lo (List.mem_of_getElem? hz.out)
            have hsn := sumC_take_le gL.lo (q + 1)
            have HSs : Hid (sumC (L9.take (q + 1)) = sumC (L9.take q) + z.c) := by unfold Hid; rw [take_next hz, sumC_snoc]
            rw [HSs.out] at hsn
            have tz : decide (z.c < 1) = false := by simp; omega
            generalize sumC (L9.take q) = sq at *
            have KC : ∀ (V : World) (bw : Nat), Env w V [h9, h20, Hp.box bw [.int .i64 z.a, .int .i64 z.b, .int .i64 z.c] 34] → V.cell? ⟨bw, 0, none⟩ = some (.int .i64 z.a) ∧ V.cell? ⟨bw, 1, none⟩ = some (.int .i64 z.b) ∧ V.cell? ⟨bw, 2, none⟩ = some (.int .i64 z.c) := fun V bw E => ⟨E.cell 2 rfl 0 rfl, E.cell 2 rfl 1 rfl, E.cell 2 rfl 2 rfl⟩
            by_cases h0 : q = 0
            · subst h0
              simp only [Nat.zero_mul, Nat.add_zero] at f0 f1 f2
              go_upto_region 38 with fail
              replace E := E.alloc (.cells #[.int .i64 z.a, .int .i64 z.b, .int .i64 z.c] 34)
              simp at E
              obtain ⟨W, hW⟩ : ∃ W : World, W = wr.alloc (.cells #[.int .i64 z.a, .int .i64 z.b, .int .i64 z.c] 34) := ⟨_, rfl⟩
              rw [← hW] at E
              rw [← hW]
              clear hW
              have q0 := E.cell 2 rfl 0 rfl
              have q1 := E.cell 2 rfl 1 rfl
              have q2 := E.cell 2 rfl 2 rfl
              generalize wr.heap.size = bv at *
              go_upto_region 39 with fail
              go_quiet (fail)
              have E6 := (E.drop 2).drewN nq
              simp at E6
              go_wp2
              go_roundw
              case rel => exact ⟨1, by omega, by go_num, by rw [HSs.out], E6⟩
              case measure => simp [intOf]; omega
            · have t0 : decide (0 < (q : Int)) = true := by simp; omega
              have t0n : decide (0 < q) = true := by simp; omega
              obtain ⟨m, hm0⟩ : ∃ m, q = m + 1 := ⟨q - 1, by omega⟩
              obtain ⟨z8, hz8⟩ := some_of_lt (show m < L9.length by omega)
              have hor : z8.b < z.b ∨ (z8.b = z.b ∧ z8.a < z.a) := by
                have h1 := List.pairwise_iff_getElem.1 gL.rise m q (by omega) hlq (by omega)
                rw [(List.getElem?_eq_some_iff.1 hz8.out).2, (List.getElem?_eq_some_iff.1 hz.out).2] at h1
                simpa [ordPair, vkey] using h1
              have i5 : (0 : Int) ≤ (m : Int) := by omega
              have i6 : (m : Int) < (L9.length : Int) := by omega
              have hwm : IntKind.i64.wrap ((q : Int) - 1) = (m : Int) := by rw [IntKind.wrap_i64]; omega
              have KD : ∀ (V : World) (bw : Nat), Env w V [h9, h20, Hp.box bw [.int .i64 z.a, .int .i64 z.b, .int .i64 z.c] 34] → V.cell? ⟨bx, ox + m * 3, none⟩ = some (.int .i64 z8.a) ∧ V.cell? ⟨bx, ox + m * 3 + 1, none⟩ = some (.int .i64 z8.b) := fun V bw E => by
                obtain ⟨b', o', e, k0, k1, _⟩ := o20.sl.tri (E.sub 1 rfl) hz8
                cases e; exact ⟨k0, k1⟩
              clear h0
              rcases hor with ho | ⟨ho, ho2⟩
              · have t3 : decide (z.b < z8.b) = false := by simp; omega
                have t4 : (z.b == z8.b) = false := by simp; omega
                clear hm0 ho
                go_upto_region 38 with fail
                replace E := E.alloc (.cells #[.int .i64 z.a, .int .i64 z.b, .int .i64 z.c] 34)
                simp at E
                obtain ⟨W, hW⟩ : ∃ W : World, W = wr.alloc (.cells #[.int .i64 z.a, .int .i64 z.b, .int .i64 z.c] 34) := ⟨_, rfl⟩
                rw [← hW] at E
                rw [← hW]
                clear hW
                have q0 := E.cell 2 rfl 0 rfl
                have q1 := E.cell 2 rfl 1 rfl
                have q2 := E.cell 2 rfl 2 rfl
                generalize wr.heap.size = bv at *
                have e0 := (KD _ _ E).1
                have e1 := (KD _ _ E).2
                go_upto_region 39 with fail
                go_quiet (fail)
                have E6 := (E.drop 2).drewN nq
                simp at E6
                go_wp2
                go_roundw
                case rel => exact ⟨q + 1, by omega, by go_num, by rw [HSs.out], E6⟩
                case measure => simp [intOf]; omega
              · have t3 : decide (z.b < z8.b) = false := by simp; omega
                have t4 : (z.b == z8.b) = true := by simp; omega
                have t5 : decide (z.a ≤ z8.a) = false := by simp; omega
                clear hm0 ho ho2
                go_upto_region 38 with fail
                replace E := E.alloc (.cells #[.int .i64 z.a, .int .i64 z.b, .int .i64 z.c] 34)
                simp at E
                obtain ⟨W, hW⟩ : ∃ W : World, W = wr.alloc (.cells #[.int .i64 z.a, .int .i64 z.b, .int .i64 z.c] 34) := ⟨_, rfl⟩
                rw [← hW] at E
                rw [← hW]
                clear hW
                have q0 := E.cell 2 rfl 0 rfl
                have q1 := E.cell 2 rfl 1 rfl
                have q2 := E.cell 2 rfl 2 rfl
                generalize wr.heap.size = bv at *
                have e0 := (KD _ _ E).1
                have e1 := (KD _ _ E).2
                go_upto_region 39 with fail
                go_quiet (fail)
                have E6 := (E.drop 2).drewN nq
                simp at E6
                go_wp2
                go_roundw
                case rel => exact ⟨q + 1, by omega, by go_num, by rw [HSs.out], E6⟩
                case measure => simp [intOf]; omega
          · obtain rfl : q = L9.length := by omega
            rw [List.take_length]
            have E21 := E.drop 1
            simp at E21
            go_wp2_with fail
            refine (Vnt.left S9 E21 0 rfl rfl).mono ?_
            rintro e w22 ⟨rfl, E22⟩
            have hcg := HCm
            have hcame := HCm.out
            have tc : (came9 != gone9 + sumC L9) = false := by simp [hcame]
            have hwc : IntKind.i64.wrap (gone9 + sumC L9) = gone9 + sumC L9 := by rw [IntKind.wrap_i64]; omega
            clear hcame
            go_wp2
            go_roundw
            case rel => exact ⟨j + 1, h9, L9, came9, gone9, by omega, by omega, by go_num, rfl, rfl, hcg.out, hgone, hle9, S9, E22⟩
            case measure => simp [intOf]; omega
    · rcases (show xs.length ≤ j ∨ (j < xs.length ∧ j = 24) by omega) with g | ⟨g, rfl⟩
      all_goals
        go_wp2_with fail
        refine (wakes13 _).mono ?_
        rintro e w2 ⟨rfl, B2⟩
        go_wp2
        go_ret
        exact ⟨rfl, (E.below B2).low⟩
end Go.Proofs.Ytpigoegjoagbnaa
end
namespace Go.Proofs.Ytpigoegjoagbnaa.vintageKept
open Go.ChangeShapes Go.WideShapes Go.ChangeAt Go.RowKit Go.Sl
set_option linter.unusedVariables false
set_option maxRecDepth 100000
set_option maxHeartbeats 2000000
theorem lifted (os : Os) (started : os.Started) (H : Type) (enc : TypeId × Value → H) :
    ReturnsInHanded {} Try.checked os 5 .any (Rows.vintageKeptSpec.pre6 enc Try.prog Try.f5 Rows.vintageKeptRow.domain false) (Rows.vintageKeptSpec.post enc Try.prog Try.f5 false true false false) := by
  refine returnsInHanded_of_change_sized (C := Try.checked) Lift.own started (by kernel_rfl) Try.func5
    (ChangeSpec.witness6 (enc := enc) (C := Try.checked) false ⟨#[], #[.slice none 0 0], []⟩ 8 (by kernel_rfl) (by kernel_rfl) (by kernel_rfl) (by kernel_rfl)) ?_
  intro W base args ds gs before hval0 hW hcnd hsz0 _
  have hval : ∀ (j : Nat) t v, Try.f5.params[j]? = some t → args[j]? = some v → Value.okWide Try.prog W .any base t v := hval0
  have hW' := hW
  obtain ⟨p, q, hA0, hV, rfl, hfz, hnd⟩ := hW
  have hA : DataW.TrodAll enc Try.prog W 0 (fun _ => true) true Try.f5.params.toList args.toList ds p := hA0
  rw [Try.params5] at hA hval
  obtain ⟨v0, vs0, d0, ds0, p0, q0, hargs, rfl, rfl, h0, r0⟩ := trodAll_cons hA
  obtain ⟨rfl, rfl, rfl⟩ := trodAll_nil r0
  obtain rfl : args = #[v0] := by cases args; simp_all
  obtain ⟨rfl, rfl⟩ := trodVars_none hV
  have k0 := h0
  have lt0 : ∀ x ∈ p0, x.block < W.heap.size := by obtain ⟨m, hm⟩ := k0; exact DataW.trod_lt m _ _ _ hm
  obtain ⟨a0_0, len0_0, cap0_0, rfl⟩ := okWide_slice Try.underlying22 (hval 0 22 v0 rfl rfl)
  obtain ⟨fuel0, hf0⟩ := h0
  obtain ⟨A0, c0, z0, hcs0, s0, w0⟩ := open_vacts Try.underlying22 Try.underlying28 (by kernel_rfl) (fun i hi => match i, hi with | 0, _ => ⟨_, rfl, rfl, Try.underlying3, by kernel_rfl⟩ | 1, _ => ⟨_, rfl, rfl, Try.underlying3, by kernel_rfl⟩ | 2, _ => ⟨_, rfl, rfl, Try.underlying3, by kernel_rfl⟩ | 3, _ => ⟨_, rfl, rfl, Try.underlying3, by kernel_rfl⟩ | k + 4, h => absurd h (by omega)) ⟨_, rfl, rfl, rfl, by kernel_rfl⟩ Try.underlying26 Try.underlying3 (by kernel_rfl) hf0
  simp [Value.cells] at hcs0
  obtain ⟨rfl, rfl, rfl⟩ := hcs0
  clear hA0 hval0 hsz0
  refine (vintKept_calls a0_0 cap0_0 z0 (Hp.all W) W (Hp.all_sub W) s0 w0).mono fun e W' ⟨he, bel⟩ => ?_
  subst he
  exact ⟨_, rfl, _, _, _, [], _, [], hW', trodAll_mk1 (shut_bool Try.underlying4 _), (trodAll_cons_mk (Below.trod Lift.laidOut (by kernel_rfl) (of_decide_eq_true (by kernel_rfl)) k0 bel lt0) trodAll_mk0), rfl, bel.frame _, fun h => by cases h⟩
theorem over : Rows.vintageKeptRow.holds Try.pinned (OpenSpec.ofChange Rows.vintageKeptSpec) :=
  OpenClaim.holds_of_wide 5 Try.f5 rfl rfl rfl rfl rfl rfl rfl ⟨rfl, rfl, rfl, rfl, rfl⟩ rfl rfl rfl rfl rfl (by kernel_rfl) Try.func5 (by kernel_rfl)
    (of_decide_eq_true (by kernel_rfl)) (by unfold Func.isWrapper; first | (rw [if_pos (by decide +kernel)]; kernel_rfl) | (rw [if_neg (by decide +kernel)]; exact ⟨rfl, rfl⟩))
    (fun os started H enc _ => lifted os started H enc)
end Go.Proofs.Ytpigoegjoagbnaa.vintageKept
namespace Go.Proofs.Ytpigoegjoagbnaa
theorem vintageKept_holds : Rows.VintageKeptSaid := vintageKept.over
#print axioms vintageKept_holds
end Go.Proofs.Ytpigoegjoagbnaa
