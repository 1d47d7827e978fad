/- Walks and plain facts that the laws of this seat share, part 8: contracts of functions, each said at its theorem. -/
import Derived.Test.YtbaklmlnfdlmmaaPk7
import Derived.Deep.RegionHeld3
set_option linter.all false
section
/- The walk of the document's Post, of a reversal. -/
namespace Go.Proofs.Ytbaklmlnfdlmmaa
open Go.RowKit Go.Sl
set_option maxHeartbeats 8000000
set_option maxRecDepth 100000
theorem refPost_two (b : Nat) (js : List SJ) (ent : ByteArray) (per of : Int) (h : Hp) (w : World) (hs : h.sub w) (hE0 : ent.toList.isEmpty = false) (hP0 : decide (0 ≤ per ∧ per ≤ 399) = true) (S : RSto h b js)
    (D : Option Addr) (cd : Nat) (xs : List SItem) (k : Hp) (ks : k.sub w) (sy : Sl kItem k D cd xs) :
    Calls Try.prog 10 #[.pointer (some ⟨b, 0, none⟩), .string ent, .int .i64 per, .int .i64 2, .int .i64 of, .slice D xs.length cd] w (RPostAns b js ent per 2 of xs h w) := by
  obtain ⟨cs, hb, A, ca, rfl, ow⟩ := S.pt
  have hp : Pt kSt 28 h b js := S.pt
  have hl := S.good.len
  have hbw := hs b _ hb
  have hd := hs.del b
  have hc : w.cell? ⟨b, 0, none⟩ = some (.slice A js.length ca) := by rw [cell_of_row w b 0 _ _ _ hbw]; rfl
  have m1 := ow.small
  have KC := fun (W : World) (hW : Below w.heap.size w W) => refCheck_calls D cd xs k W (ks.of_below hW) sy
  have AC := fun (W : World) (hW : Below w.heap.size w W) => refAll_calls b A ca js ent 399 (h.del b) W (hd.of_below hW) ((hW.cell (World.block_lt_of_cell? w _ hc)).trans hc) ow.sl hl S.good.lines
  have PC := fun W => refPeriod_calls per W
  rw [hP0] at PC
  have hA : argsBad ent per 2 of = false := by
    simp only [argsBad, hE0, hP0]
    simp
  have HP : Hid (postE js ent per 2 of xs = if (2 : Int) = 2 ∧ refRevE js ent per of ≠ 0 then refRevE js ent per of else if refLinesE js 2 of xs ≠ 0 then 2 else if 200 ≤ js.length then 5 else if (merge (allL js ent 399 ++ xs)).any (fun x => !money x.amt) = true then 6 else 0) := by
    unfold Hid; rw [← refPost_same S.num]; unfold refPostE; rw [if_neg (by rw [hA]; decide)]
  clear hA hP0
  have htm := fun hx : checkE xs = 0 => S.num.tame2 hl ent 399 hx
  have hck := refCheck_same xs
  by_cases ho1 : of < 1
  · have HE : Hid (postE js ent per 2 of xs = 3) := by
      have e : refRevE js ent per of = 3 := by unfold refRevE atOf; rw [if_neg (by omega)]
      unfold Hid; rw [HP.out, e, if_pos (by simp)]
    clear HP KC AC htm hck
    go_enter Try.func10, Try.ntmps10
    go_wp2_with (go_at_call 25; refine (PC _).mono ?_; rintro e w' ⟨rfl, rfl⟩)
    go_ret2
    exact .no HE.out (by decide) hp hs (Below.refl _ _)
  by_cases ho2 : (js.length : Int) < of
  · have HE : Hid (postE js ent per 2 of xs = 3) := by
      have e : refRevE js ent per of = 3 := by unfold refRevE atOf; rw [if_pos (by omega), List.getElem?_eq_none (by omega)]
      unfold Hid; rw [HP.out, e, if_pos (by simp)]
    clear HP KC AC htm hck
    go_enter Try.func10, Try.ntmps10
    go_wp2_with (go_at_call 25; refine (PC _).mono ?_; rintro e w' ⟨rfl, rfl⟩)
    go_ret2
    exact .no HE.out (by decide) hp hs (Below.refl _ _)
  obtain ⟨m, hm⟩ : ∃ m : Nat, (of - 1).toNat = m := ⟨_, rfl⟩
  obtain ⟨x, hx⟩ := some_of_lt (show m < js.length by omega)
  have HX : Hid (atOf js of = some x) := by unfold Hid atOf; rw [if_pos (by omega), hm]; exact hx.out
  have HRV : Hid (refRevE js ent per of = if refBad x ent per = true then 3 else if js.any (fun j => j.of == of) = true then 4 else 0) := by unfold Hid refRevE; rw [HX.out]
  have hxl := S.good.lines x (List.mem_of_getElem? hx.out)
  have i1 : 1 ≤ of := by omega
  have i2 : of ≤ (js.length : Int) := by omega
  clear ho1 ho2
  obtain ⟨bx, ox, B, cb, rfl, sl, c1, c2, c3, c4, c5, c6⟩ := ow.sl.jou hd hx
  by_cases hbad : refBad x ent per = true
  · have HE : Hid (postE js ent per 2 of xs = 3) := by
      have e : refRevE js ent per of = 3 := by rw [HRV.out, if_pos hbad]
      unfold Hid; rw [HP.out, e, if_pos (by simp)]
    clear HP KC AC htm hck HRV HX
    by_cases he : x.ent.toList = ent.toList
    · have he' : decide (x.ent.toList = ent.toList) = true := by simpa using he
      cases hpp : (x.period != per) with
      | true =>
        clear hbad
        go_enter Try.func10, Try.ntmps10
        go_wp2_with (go_at_call 25; refine (PC _).mono ?_; rintro e w' ⟨rfl, rfl⟩)
        go_ret2
        exact .no HE.out (by decide) hp hs (Below.refl _ _)
      | false =>
        cases hkk : (x.kind != 1) with
        | true =>
          clear hbad
          go_enter Try.func10, Try.ntmps10
          go_wp2_with (go_at_call 25; refine (PC _).mono ?_; rintro e w' ⟨rfl, rfl⟩)
          go_ret2
          exact .no HE.out (by decide) hp hs (Below.refl _ _)
        | false => exact absurd hbad (by simp [refBad, he, hpp, hkk])
    · have he' : decide (x.ent.toList = ent.toList) = false := by simpa using he
      clear hbad
      go_enter Try.func10, Try.ntmps10
      go_wp2_with (go_at_call 25; refine (PC _).mono ?_; rintro e w' ⟨rfl, rfl⟩)
      go_ret2
      exact .no HE.out (by decide) hp hs (Below.refl _ _)
  obtain ⟨he, hpp, hkk⟩ : x.ent.toList = ent.toList ∧ (x.period != per) = false ∧ (x.kind != 1) = false := by
    simp only [refBad, Bool.or_eq_true, Bool.not_eq_true', decide_eq_false_iff_not, not_or, Decidable.not_not, Bool.not_eq_true] at hbad
    exact hbad
  have he' : decide (x.ent.toList = ent.toList) = true := by simpa using he
  have HRV2 : Hid (refRevE js ent per of = if js.any (fun j => j.of == of) = true then 4 else 0) := by unfold Hid; rw [HRV.out, if_neg hbad]
  have HL2 : Hid (refLinesE js 2 of xs = if refCheckB xs = false then 2 else if eqB xs (reverseL x.lines) = true then 0 else 2) := by
    unfold Hid refLinesE; rw [if_pos rfl, HX.out]
  clear hbad HRV HX
  go_enter Try.func10, Try.ntmps10
  go_wp2_with (go_at_call 25; refine (PC _).mono ?_; rintro e w' ⟨rfl, rfl⟩)
  go_loopw [97] (fun i wr => ∃ (j : Nat), j ≤ js.length ∧ i = .int .i64 j ∧ Hid (∀ y ∈ js.take j, (y.of == of) = false) ∧ Below w.heap.size w wr) (fun i _ => js.length - (intOf i).toNat)
  case atStart => exact ⟨0, by omega, rfl, by unfold Hid; simp, Below.refl _ _⟩
  case round =>
    obtain ⟨j, hj, rfl, hn, hb5⟩ := hrel
    have hzr := hb5.size
    by_cases hlt : j < js.length
    · obtain ⟨y, hy⟩ := some_of_lt hlt
      obtain ⟨by', oy, B2, cb2, e2, sl2, d1, d2, d3, d4, d5, d6⟩ := ow.sl.jou (hd.of_below hb5) hy
      cases e2
      have j1 : (0 : Int) ≤ (j : Int) := by omega
      have j2 : (j : Int) < (js.length : Int) := by omega
      cases hq : (y.of == of) with
      | true =>
        have HE : Hid (postE js ent per 2 of xs = 4) := by
          have e : refRevE js ent per of = 4 := by rw [HRV2.out, if_pos (List.any_eq_true.2 ⟨y, List.mem_of_getElem? hy.out, hq⟩)]
          unfold Hid; rw [HP.out, e, if_pos (by simp)]
        clear HP KC AC htm hck HRV2 HL2
        go_wp2
        go_ret2
        exact .no HE.out (by decide) hp hs (hb5.alloc hb5.size _)
      | false =>
        have HN : Hid (∀ z ∈ js.take (j + 1), (z.of == of) = false) := by
          intro z hz
          rw [take_next hy] at hz
          rcases List.mem_append.1 hz with hz | hz
          · exact hn.out z hz
          · simp at hz; subst hz; exact hq
        clear HP KC AC htm hck HRV2 HL2
        go_wp2
        go_roundw
        case rel => exact ⟨j + 1, by omega, by go_num, HN, hb5.alloc hb5.size _⟩
        case measure => simp [intOf]; omega
    · have hany : js.any (fun z => z.of == of) = false := by
        rw [List.any_eq_false]
        intro z hz
        rw [hn.out z (by rw [List.take_of_length_le (by omega)]; exact hz)]; decide
      have HP1 : Hid (postE js ent per 2 of xs = if refLinesE js 2 of xs ≠ 0 then 2 else if 200 ≤ js.length then 5 else if (merge (allL js ent 399 ++ xs)).any (fun x => !money x.amt) = true then 6 else 0) := by
        unfold Hid; rw [HP.out, HRV2.out, hany]; simp
      clear HP HRV2 hany hn c1 c2 c3 c4 c5
      obtain rfl : j = js.length := by omega
      clear hlt
      by_cases hC : checkE xs = 0
      · have hcb : refCheckB xs = true := by rw [← hck, hC]; rfl
        have htm := htm hC
        have hxlen := check_len hC
        rw [hcb] at KC
        have HL3 : Hid (refLinesE js 2 of xs = if eqB xs (reverseL x.lines) = true then 0 else 2) := by unfold Hid; rw [HL2.out, hcb]; simp
        clear HL2 hck hcb hC
        have HRL : Hid ((reverseL x.lines).length = x.lines.length) := by unfold Hid reverseL; simp
        go_wp2_with fail
        refine (KC _ hb5).mono ?_
        rintro e w1 ⟨rfl, B1⟩
        have BW1 := hb5.trans (B1.mono hb5.size)
        have hc1 := (BW1.cell (p := ⟨b, 0, none⟩) (World.block_lt_of_cell? w _ hc)).trans hc
        have c61 := (BW1.cell (World.block_lt_of_cell? w _ c6)).trans c6
        clear KC B1
        have i3 : 0 ≤ of - 1 := by omega
        have i4 : of - 1 < (js.length : Int) := by omega
        go_wp2_with fail
        refine (refReverse_calls B cb x.lines (h.del b) _ (hd.of_below BW1) sl (by omega)).mono ?_
        rintro e w2 ⟨CR, nR, hR, rfl, oR, uR⟩
        have BW2 := BW1.trans (uR.below.mono BW1.size)
        have SC := refSame_calls D CR cd nR xs (reverseL x.lines) k hR w2 (ks.of_below BW2) uR.sub sy oR.sl
        rw [HRL.out] at SC
        cases hq : eqB xs (reverseL x.lines) with
        | false =>
          have HE : Hid (postE js ent per 2 of xs = 2) := by unfold Hid; rw [HP1.out, HL3.out, hq, if_pos (by simp)]
          rw [hq] at SC
          clear HP1 HL3 hq oR uR AC htm
          go_wp2_with fail
          refine SC.mono ?_
          rintro e w3 ⟨rfl, B3⟩
          go_wp2
          go_ret2
          exact .no HE.out (by decide) hp hs (BW2.trans (B3.mono BW2.size))
        | true =>
          have HP3 : Hid (postE js ent per 2 of xs = if 200 ≤ js.length then 5 else if (merge (allL js ent 399 ++ xs)).any (fun x => !money x.amt) = true then 6 else 0) := by unfold Hid; rw [HP1.out, HL3.out, hq]; simp
          rw [hq] at SC
          clear HP1 HL3 hq oR uR
          go_wp2_with fail
          refine SC.mono ?_
          rintro e w3 ⟨rfl, B3⟩
          have BW := BW2.trans (B3.mono BW2.size)
          have hc1 := (BW.cell (p := ⟨b, 0, none⟩) (World.block_lt_of_cell? w _ hc)).trans hc
          clear SC B3 BW2 BW1 hb5 hzr c61
          by_cases h2 : 200 ≤ js.length
          · have HE : Hid (postE js ent per 2 of xs = 5) := by unfold Hid; rw [HP3.out, if_pos h2]
            clear HP3 AC htm
            go_wp2
            go_ret2
            exact .no HE.out (by decide) hp hs BW
          · have HP2 : Hid (postE js ent per 2 of xs = if (merge (allL js ent 399 ++ xs)).any (fun x => !money x.amt) = true then 6 else 0) := by unfold Hid; rw [HP3.out, if_neg h2]
            have h2b : decide (200 ≤ (js.length : Int)) = false := by simp; omega
            clear HP3
            go_wp2_with fail
            refine (AC _ BW).mono ?_
            rintro e w2 ⟨C2, n2, h2, rfl, o2, E2⟩
            have HTM := Lib.hid htm
            have HLA : Hid ((allL js ent 399).length ≤ 4000) := by have := allL_len ent 399 js S.good.lines; have := S.good.len; unfold Hid; omega
            clear AC htm
            generalize allL js ent 399 = la at *
            have la2 := HLA.out
            go_wp2_with (first
              | (at_builtin; refine wpList_clone (B := none) Try.underlying34 info_line (by rfl) (by rfl) rfl la.length n2 (by rfl) (by rfl) rfl kItem_flat o2.sl (E2.sub 0 rfl) (by omega) (by omega) ?_; intro C3 n3 w3 h3 o3 u3; have E3 := E2.new u3; simp at E3)
              | (at_builtin; refine wpList_eappF 1 Try.underlying34 info_line E3 (by rfl) o3 sy (ks.of_below (BW.trans (E3.low.mono BW.size))) la.length xs.length rfl rfl kItem_flat (by rfl) (by rfl) rfl cd (by rfl) (by rfl) (by omega) (by omega) ?_; intro C4 n4 w4 h4 o4 E4; simp at E4)
              | fail)
            have MC := refMerge_calls C4 n4 (la ++ xs) h4 _ (E4.sub 1 rfl) o4.sl HTM.out
            rw [List.length_append] at MC
            go_wp2_with fail
            refine MC.mono ?_
            rintro e w5 ⟨C5, n5, h5, rfl, o5, u5⟩
            have E5 := E4.new u5
            simp at E5
            have BL := BW.trans (E5.low.mono BW.size)
            have s5 := E5.sub 2 rfl
            have l5 := o5.sl
            clear MC o2 o3 o4 o5 u5 E2 E3 E4 E5 HTM HLA
            generalize merge (la ++ xs) = ml at *
            have m5 := l5.small
            go_wp2
            go_loopw [142] (fun i wr => ∃ (j : Nat), j ≤ ml.length ∧ i = .int .i64 j ∧ Hid (∀ y ∈ ml.take j, (!money y.amt) = false) ∧ Below w5.heap.size w5 wr) (fun i _ => ml.length - (intOf i).toNat)
            case atStart => exact ⟨0, by omega, rfl, by unfold Hid; simp, Below.refl _ _⟩
            case round =>
              obtain ⟨j, hj, rfl, hn, hb5⟩ := hrel
              have hbr : Below w.heap.size w wr := BL.trans (hb5.mono BL.size)
              have hc2 := (hbr.cell (p := ⟨b, 0, none⟩) (World.block_lt_of_cell? w _ hc)).trans hc
              have hzr := hbr.size
              by_cases hlt : j < ml.length
              · obtain ⟨x, hx⟩ := some_of_lt hlt
                obtain ⟨b2, o2, rfl, c1, c2⟩ := l5.item (s5.of_below hb5) hx
                have i1 : (0 : Int) ≤ (j : Int) := by omega
                have i2 : (j : Int) < (ml.length : Int) := by omega
                cases hm : money x.amt with
                | true =>
                  have HN : Hid (∀ y ∈ ml.take (j + 1), (!money y.amt) = false) := by
                    intro y hy
                    rw [take_next hx] at hy
                    rcases List.mem_append.1 hy with hy | hy
                    · exact hn.out y hy
                    · simp at hy; subst hy; rw [hm]; rfl
                  clear HP2
                  go_wp2_with (go_at_call 30; refine (refMoney_calls _ _).mono ?_; rintro e w' ⟨rfl, rfl⟩)
                  go_roundw
                  case rel => exact ⟨j + 1, by omega, by go_num, HN, hb5.alloc hb5.size _⟩
                  case measure => simp [intOf]; omega
                | false =>
                  have HE := Lib.hid (HP2.out.trans (if_pos (List.any_eq_true.2 ⟨x, List.mem_of_getElem? hx.out, by rw [hm]; rfl⟩)))
                  clear HP2
                  go_wp2_with (go_at_call 30; refine (refMoney_calls _ _).mono ?_; rintro e w' ⟨rfl, rfl⟩)
                  go_ret2
                  exact .no HE.out (by decide) hp hs (hbr.alloc hbr.size _)
              · have hany : ml.any (fun x => !money x.amt) = false := by
                  rw [List.any_eq_false]
                  intro y hy
                  rw [hn.out y (by rw [List.take_of_length_le (by omega)]; exact hy)]; decide
                have HE := Lib.hid (HP2.out.trans (by rw [hany, if_neg (by decide)]))
                clear HP2 hany
                have j1 : (0 : Int) ≤ (js.length : Int) := by omega
                have j2 : (js.length : Int) < 200 := by omega
                have hf2 : wr.frozen? ⟨b, 0, none⟩ = false := (hbr.frozen (p := ⟨b, 0, none⟩) (World.block_lt_of_cell? w _ hc)).trans (frozen_of_row w b 0 _ _ hbw)
                have hlb := Nat.lt_of_lt_of_le (World.block_lt_of_cell? w _ hc) hzr
                simp only at hlb
                have hwj : IntKind.i64.wrap ((js.length : Int) + 1) = (js.length : Int) + 1 := by rw [IntKind.wrap_i64]; omega
                go_wp2
                obtain ⟨AA, hcA, owA, hbA⟩ : ∃ X : Option Addr, wr.cell? ⟨b, 0, none⟩ = some (.slice X js.length ca) ∧ Ow kJ (h.del b) X ca js ∧ h b = some (.cells #[.slice X js.length ca] 28 (0, 0)) := ⟨_, hc2, ow, hb⟩
                refine wp_region_facts_seen (F := rpF w wr h b AA ca js ent per 2 of xs D cd) (G := rpG w wr h b js ⟨(js.length : Int) + 1, ent, per, 2, of, xs⟩ 28) [0, 1, 2, 3, 4, 5, 6, 7, 8, 9, 10, 11, 12, 13, 14, 15, 16, 17, 18, 19, 20, 21, 22] (by kernel_rfl) (by kernel_rfl) (by kernel_rfl) ⟨fun _ => (Below.refl _ _).drew, fun hz => by simp at hz⟩ ?_ ?_
                · intro i o ho ls a V hn hn2 cl hall g kp hd2
                  have B0 := Below.refl V.heap.size V
                  match i, ho with
                  | 0, ho =>
                    simp at ho
                    subst ho
                    have h0 : a.tmps[0]?.getD undef = .pointer (some ⟨b, 0, none⟩) := (kp.at (t := 0) (by kernel_rfl)).trans rfl
                    refine wpOp_step (o := _) rfl ?_
                    intro K' hK'
                    rw [if_pos (by rfl)]
                    go_simp
                    exact hK' _ _ ⟨_, rfl, fun _ => rfl, rpG_below (by decide) (by decide) B0 g, fun k v _ hh => rpF_below B0 hh⟩
                  | 1, ho =>
                    simp at ho
                    subst ho
                    have h0 : a.tmps[0]?.getD undef = .pointer (some ⟨b, 0, none⟩) := (kp.at (t := 0) (by kernel_rfl)).trans rfl
                    refine wpOp_step (o := _) rfl ?_
                    intro K' hK'
                    rw [if_pos (by rfl)]
                    go_simp
                    exact hK' _ _ ⟨_, rfl, fun _ => rfl, rpG_below (by decide) (by decide) B0 g, fun k v _ hh => rpF_below B0 hh⟩
                  | 5, ho =>
                    simp at ho
                    subst ho
                    have h0 : a.tmps[0]?.getD undef = .pointer (some ⟨b, 0, none⟩) := (kp.at (t := 0) (by kernel_rfl)).trans rfl
                    refine wpOp_step (o := _) rfl ?_
                    intro K' hK'
                    rw [if_pos (by rfl)]
                    go_simp
                    exact hK' _ _ ⟨_, rfl, fun _ => rfl, rpG_below (by decide) (by decide) B0 g, fun k v _ hh => rpF_below B0 hh⟩
                  | 2, ho =>
                    simp at ho
                    subst ho
                    have h152 : a.tmps[152]?.getD undef = .pointer (some ⟨b, 0, none⟩) := (eval_tmp a 152).symm.trans (hd2 ⟨1, .data⟩ (by simp) rfl _ _ rfl rfl)
                    refine wpOp_step (o := _) rfl ?_
                    intro K' hK'
                    rw [if_pos (by rfl)]
                    go_simp
                    exact hK' _ _ ⟨_, rfl, fun _ => rfl, rpG_below (by decide) (by decide) B0 g, fun k v _ hh => rpF_below B0 hh⟩
                  | 6, ho =>
                    simp at ho
                    subst ho
                    have h156 : a.tmps[156]?.getD undef = .pointer (some ⟨b, 0, none⟩) := (eval_tmp a 156).symm.trans (hd2 ⟨5, .data⟩ (by simp) rfl _ _ rfl rfl)
                    refine wpOp_step (o := _) rfl ?_
                    intro K' hK'
                    rw [if_pos (by rfl)]
                    go_simp
                    exact hK' _ _ ⟨_, rfl, fun _ => rfl, rpG_below (by decide) (by decide) B0 g, fun k v _ hh => rpF_below B0 hh⟩
                  | 20, ho =>
                    simp at ho
                    subst ho
                    have h151 : a.tmps[151]?.getD undef = .pointer (some ⟨b, 0, none⟩) := (eval_tmp a 151).symm.trans (hd2 ⟨0, .data⟩ (by simp) rfl _ _ rfl rfl)
                    refine wpOp_step (o := _) rfl ?_
                    intro K' hK'
                    rw [if_pos (by rfl)]
                    go_simp
                    exact hK' _ _ ⟨_, rfl, fun _ => rfl, rpG_below (by decide) (by decide) B0 g, fun k v _ hh => rpF_below B0 hh⟩
                  | 3, ho =>
                    simp at ho
                    subst ho
                    have h153 : a.tmps[153]?.getD undef = .pointer (some ⟨b, 0, none⟩) := (eval_tmp a 153).symm.trans (hd2 ⟨2, .data⟩ (by simp) rfl _ _ rfl rfl)
                    refine wpOp_step (o := _) rfl ?_
                    intro K' hK'
                    rw [if_pos (by rfl)]
                    go_simp
                    exact hK' _ _ ⟨_, rfl, fun _ => rfl, rpG_below (by decide) (by decide) B0 g, fun k v _ hh => rpF_below B0 hh⟩
                  | 7, ho =>
                    simp at ho
                    subst ho
                    have h157 : a.tmps[157]?.getD undef = .pointer (some ⟨b, 0, none⟩) := (eval_tmp a 157).symm.trans (hd2 ⟨6, .data⟩ (by simp) rfl _ _ rfl rfl)
                    refine wpOp_step (o := _) rfl ?_
                    intro K' hK'
                    rw [if_pos (by rfl)]
                    go_simp
                    exact hK' _ _ ⟨_, rfl, fun _ => rfl, rpG_below (by decide) (by decide) B0 g, fun k v _ hh => rpF_below B0 hh⟩
                  | 21, ho =>
                    simp at ho
                    subst ho
                    have h171 : a.tmps[171]?.getD undef = .pointer (some ⟨b, 0, none⟩) := (eval_tmp a 171).symm.trans (hd2 ⟨20, .data⟩ (by simp) rfl _ _ rfl rfl)
                    refine wpOp_step (o := _) rfl ?_
                    intro K' hK'
                    rw [if_pos (by rfl)]
                    go_simp
                    exact hK' _ _ ⟨_, rfl, fun _ => rfl, rpG_below (by decide) (by decide) B0 g, fun k v _ hh => rpF_below B0 hh⟩
                  | 4, ho =>
                    simp at ho
                    subst ho
                    have h154 : a.tmps[154]?.getD undef = .pointer (some ⟨b, 0, none⟩) := (eval_tmp a 154).symm.trans (hd2 ⟨3, .data⟩ (by simp) rfl _ _ rfl rfl)
                    have n19 : ls.getD 19 false = false := by
                      cases hq : ls.getD 19 false with
                      | false => rfl
                      | true =>
                        have q4 := cl.up (k := 19) rfl hq ⟨4, .data⟩ (by simp) rfl
                        simp only at q4; rw [q4] at hn; cases hn
                    have BV := g.1 n19
                    have c0 := (BV.cell (p := ⟨b, 0, none⟩) (World.block_lt_of_cell? _ _ hcA)).trans hcA
                    refine wpOp_step (o := _) rfl ?_
                    intro K' hK'
                    rw [if_pos (by rfl)]
                    go_simp
                    exact hK' _ _ ⟨_, rfl, fun _ => rfl, rpG_below (by decide) (by decide) B0 g, fun k v _ hh => rpF_below B0 hh⟩
                  | 8, ho =>
                    simp at ho
                    subst ho
                    have h158 : a.tmps[158]?.getD undef = .pointer (some ⟨b, 0, none⟩) := (eval_tmp a 158).symm.trans (hd2 ⟨7, .data⟩ (by simp) rfl _ _ rfl rfl)
                    have n19 : ls.getD 19 false = false := by
                      cases hq : ls.getD 19 false with
                      | false => rfl
                      | true =>
                        have q18 := cl.up (k := 19) rfl hq ⟨18, .data⟩ (by simp) rfl
                        have q17 := cl.up (k := 18) rfl q18 ⟨17, .data⟩ (by simp) rfl
                        have q10 := cl.up (k := 17) rfl q17 ⟨10, .data⟩ (by simp) rfl
                        have q9 := cl.up (k := 10) rfl q10 ⟨9, .data⟩ (by simp) rfl
                        have q8 := cl.up (k := 9) rfl q9 ⟨8, .data⟩ (by simp) rfl
                        simp only at q8; rw [q8] at hn; cases hn
                    have BV := g.1 n19
                    have c0 := (BV.cell (p := ⟨b, 0, none⟩) (World.block_lt_of_cell? _ _ hcA)).trans hcA
                    refine wpOp_step (o := _) rfl ?_
                    intro K' hK'
                    rw [if_pos (by rfl)]
                    go_simp
                    exact hK' _ _ ⟨_, rfl, fun _ => rfl, rpG_below (by decide) (by decide) B0 g, fun k v _ hh => rpF_below B0 hh⟩
                  | 9, ho =>
                    simp at ho
                    subst ho
                    have h159 : a.tmps[159]?.getD undef = .slice AA js.length ca := (eval_tmp a 159).symm.trans (hd2 ⟨8, .data⟩ (by simp) rfl _ _ rfl rfl)
                    refine wpOp_step (o := _) rfl ?_
                    intro K' hK'
                    rw [if_pos (by rfl)]
                    go_simp
                    exact hK' _ _ ⟨_, rfl, fun _ => rfl, rpG_below (by decide) (by decide) B0 g, fun k v _ hh => rpF_below B0 hh⟩
                  | 10, ho =>
                    simp at ho
                    subst ho
                    have h160 : a.tmps[160]?.getD undef = .int .i64 (js.length : Int) := (eval_tmp a 160).symm.trans (hd2 ⟨9, .data⟩ (by simp) rfl _ _ rfl rfl)
                    refine wpOp_step (o := _) rfl ?_
                    intro K' hK'
                    rw [if_pos (by rfl)]
                    go_simp
                    exact hK' _ _ ⟨_, rfl, fun _ => rfl, rpG_below (by decide) (by decide) B0 g, fun k v _ hh => rpF_below B0 hh⟩
                  | 11, ho =>
                    simp at ho
                    subst ho
                    have h1 : a.tmps[1]?.getD undef = .string ent := (kp.at (t := 1) (by kernel_rfl)).trans rfl
                    refine wpOp_step (o := _) rfl ?_
                    intro K' hK'
                    rw [if_pos (by rfl)]
                    go_simp
                    exact hK' _ _ ⟨_, rfl, fun _ => rfl, rpG_below (by decide) (by decide) B0 g, fun k v _ hh => rpF_below B0 hh⟩
                  | 12, ho =>
                    simp at ho
                    subst ho
                    have h2 : a.tmps[2]?.getD undef = .int .i64 per := (kp.at (t := 2) (by kernel_rfl)).trans rfl
                    refine wpOp_step (o := _) rfl ?_
                    intro K' hK'
                    rw [if_pos (by rfl)]
                    go_simp
                    exact hK' _ _ ⟨_, rfl, fun _ => rfl, rpG_below (by decide) (by decide) B0 g, fun k v _ hh => rpF_below B0 hh⟩
                  | 13, ho =>
                    simp at ho
                    subst ho
                    have h3 : a.tmps[3]?.getD undef = .int .i64 2 := (kp.at (t := 3) (by kernel_rfl)).trans rfl
                    refine wpOp_step (o := _) rfl ?_
                    intro K' hK'
                    rw [if_pos (by rfl)]
                    go_simp
                    exact hK' _ _ ⟨_, rfl, fun _ => rfl, rpG_below (by decide) (by decide) B0 g, fun k v _ hh => rpF_below B0 hh⟩
                  | 14, ho =>
                    simp at ho
                    subst ho
                    have h4 : a.tmps[4]?.getD undef = .int .i64 of := (kp.at (t := 4) (by kernel_rfl)).trans rfl
                    refine wpOp_step (o := _) rfl ?_
                    intro K' hK'
                    rw [if_pos (by rfl)]
                    go_simp
                    exact hK' _ _ ⟨_, rfl, fun _ => rfl, rpG_below (by decide) (by decide) B0 g, fun k v _ hh => rpF_below B0 hh⟩
                  | 15, ho =>
                    simp at ho
                    subst ho
                    have h5 : a.tmps[5]?.getD undef = .slice D xs.length cd := (kp.at (t := 5) (by kernel_rfl)).trans rfl
                    refine wpOp_step (o := _) rfl ?_
                    intro K' hK'
                    rw [if_pos (by rfl)]
                    go_simp
                    exact hK' _ _ ⟨_, rfl, fun _ => rfl, rpG_below (by decide) (by decide) B0 g, fun k v _ hh => rpF_below B0 hh⟩
                  | 16, ho =>
                    simp at ho
                    subst ho
                    have e166 : a.eval (.tmp 166) = .slice D xs.length cd := hd2 ⟨15, .data⟩ (by simp) rfl _ _ rfl rfl
                    have n19 : ls.getD 19 false = false := by
                      cases hq : ls.getD 19 false with
                      | false => rfl
                      | true =>
                        have q18 := cl.up (k := 19) rfl hq ⟨18, .data⟩ (by simp) rfl
                        have q17 := cl.up (k := 18) rfl q18 ⟨17, .data⟩ (by simp) rfl
                        have q16 := cl.up (k := 17) rfl q17 ⟨16, .data⟩ (by simp) rfl
                        simp only at q16; rw [q16] at hn; cases hn
                    have BV := g.1 n19
                    refine wpOp_step (o := _) rfl ?_
                    intro K' hK'
                    refine step_clone (sx := .const (.slice none 0 0)) (xx := .tmp 166) (B := none) Try.underlying34 info_line (by rfl) (by rfl) rfl xs.length cd rfl e166 rfl kItem_flat sy ((ks.of_below hbr).of_below BV) (by omega) (by omega) ?_
                    intro C2 n2 V2 h2 o2 u2
                    exact hK' _ _ ⟨_, rfl, fun _ => .inr ⟨C2, n2, h2, rfl, o2, u2.before BV⟩, rpG_below (by decide) (by decide) u2.below g, fun k v _ hh => rpF_below u2.below hh⟩
                  | 17, ho =>
                    simp at ho
                    subst ho
                    have n19 : ls.getD 19 false = false := by
                      cases hq : ls.getD 19 false with
                      | false => rfl
                      | true =>
                        have q18 := cl.up (k := 19) rfl hq ⟨18, .data⟩ (by simp) rfl
                        have q17 := cl.up (k := 18) rfl q18 ⟨17, .data⟩ (by simp) rfl
                        simp only at q17; rw [q17] at hn; cases hn
                    have f16 := hd2 ⟨16, .data⟩ (by simp) rfl _ _ rfl rfl
                    simp only [rpF, n19, Bool.false_eq_true, false_or] at f16
                    obtain ⟨C, n, h2, e9, o2, u2⟩ := f16
                    have h167 := (eval_tmp a 167).symm.trans e9
                    clear e9
                    have h161 : a.tmps[161]?.getD undef = .int .i64 ((js.length : Int) + 1) := (eval_tmp a 161).symm.trans (hd2 ⟨10, .data⟩ (by simp) rfl _ _ rfl rfl)
                    have h162 : a.tmps[162]?.getD undef = .string ent := (eval_tmp a 162).symm.trans (hd2 ⟨11, .data⟩ (by simp) rfl _ _ rfl rfl)
                    have h163 : a.tmps[163]?.getD undef = .int .i64 per := (eval_tmp a 163).symm.trans (hd2 ⟨12, .data⟩ (by simp) rfl _ _ rfl rfl)
                    have h164 : a.tmps[164]?.getD undef = .int .i64 2 := (eval_tmp a 164).symm.trans (hd2 ⟨13, .data⟩ (by simp) rfl _ _ rfl rfl)
                    have h165 : a.tmps[165]?.getD undef = .int .i64 of := (eval_tmp a 165).symm.trans (hd2 ⟨14, .data⟩ (by simp) rfl _ _ rfl rfl)
                    refine wpOp_step (o := _) rfl ?_
                    intro K' hK'
                    rw [if_pos (by rfl)]
                    go_simp
                    exact hK' _ _ ⟨_, rfl, fun _ => .inr ⟨C, n, h2, rfl, o2, u2⟩, rpG_below (by decide) (by decide) B0 g, fun k v _ hh => rpF_below B0 hh⟩
                  | 18, ho =>
                    simp at ho
                    subst ho
                    have n19 : ls.getD 19 false = false := by
                      cases hq : ls.getD 19 false with
                      | false => rfl
                      | true =>
                        have q18 := cl.up (k := 19) rfl hq ⟨18, .data⟩ (by simp) rfl
                        simp only at q18; rw [q18] at hn; cases hn
                    have f17 := hd2 ⟨17, .data⟩ (by simp) rfl _ _ rfl rfl
                    simp only [rpF, n19, Bool.false_eq_true, false_or] at f17
                    obtain ⟨C, n, h2, e9, o2, u2⟩ := f17
                    have h168 := (eval_tmp a 168).symm.trans e9
                    clear e9
                    refine wpOp_step (o := _) rfl ?_
                    intro K' hK'
                    rw [if_pos (by rfl)]
                    go_simp
                    have B1 := B0.alloc (Nat.le_refl _) (.cells #[.int .i64 ((js.length : Int) + 1), .string ent, .int .i64 per, .int .i64 2, .int .i64 of, .slice C xs.length n] 37)
                    exact hK' _ _ ⟨_, rfl, fun _ => .inr ⟨C, n, h2, _, _, rfl, heap_new_at rfl, o2, u2.after B1⟩, rpG_below (by decide) (by decide) B1 g, fun k v _ hh => rpF_below B1 hh⟩
                  | 19, ho =>
                    simp at ho
                    subst ho
                    have n19 : ls.getD 19 false = false := by
                      cases hq : ls.getD 19 false with
                      | false => rfl
                      | true =>
                        rw [hq] at hn; cases hn
                    have f18 := hd2 ⟨18, .data⟩ (by simp) rfl _ _ rfl rfl
                    simp only [rpF, n19, Bool.false_eq_true, false_or] at f18
                    obtain ⟨C, n, h2, q, T, e169, hq2, o2, u2⟩ := f18
                    have e155 : a.eval (.tmp 155) = .slice AA js.length ca := hd2 ⟨4, .data⟩ (by simp) rfl _ _ rfl rfl
                    have BV := g.1 n19
                    have c0 := (BV.cell (p := ⟨b, 0, none⟩) (World.block_lt_of_cell? _ _ hcA)).trans hcA
                    have f0 := (BV.frozen (p := ⟨b, 0, none⟩) (World.block_lt_of_cell? _ _ hcA)).trans hf2
                    have hdr := hd.of_below hbr
                    have h2b := u2.new_none (World.block_lt_of_cell? _ _ hcA)
                    refine wpOp_step (o := _) rfl ?_
                    intro K' hK'
                    refine step_app1 (sx := .tmp 155) (xx := .tmp 169) (hx := h2) (h := h.del b) (xs := js) (cap := ca) (y := ⟨(js.length : Int) + 1, ent, per, 2, of, xs⟩) Try.underlying26 info_jou (by rfl) (by rfl) rfl js.length 1 e155 e169 rfl owA (hdr.of_below BV) hq2 ⟨C, n, rfl, o2⟩ u2.sub (u2.apart (fun _ e => absurd rfl e) hdr).symm (by omega) (by omega) ?_
                    intro C3 n3 V3 h3 o3 u3
                    have hs9 := getD_set_self (ls := ls) (i := 19) hn2
                    exact hK' _ _ ⟨_, rfl, fun _ => .inr ⟨C3, n3, h3, rfl, o3, u2.eat u3, u3.cell c0 (by simp [Hp.or, Hp.del_self, h2b]), (u3.frozen (p := ⟨b, 0, none⟩) (World.block_lt_of_cell? _ _ c0) (by simp [Hp.or, Hp.del_self, h2b])).trans f0⟩, ⟨fun hz => (by rw [hs9] at hz; cases hz), fun hz => by rw [Go.Sl.getD_set_ne (show (19 : Nat) ≠ 22 by decide)] at hz; exact absurd (cl.up (k := 22) rfl hz ⟨19, .data⟩ (by simp) rfl) (by simp only; rw [n19]; decide)⟩, fun k v hk hh => rpF_eat hk hs9 hh⟩
                  | 22, ho =>
                    simp at ho
                    subst ho
                    have h172 : a.tmps[172]?.getD undef = .pointer (some ⟨b, 0, none⟩) := (eval_tmp a 172).symm.trans (hd2 ⟨21, .data⟩ (by simp) rfl _ _ rfl rfl)
                    have f19 := hd2 ⟨19, .data⟩ (by simp) rfl _ _ rfl rfl
                    simp only [rpF, hn, Bool.false_eq_true, false_or] at f19
                    obtain ⟨C3, n3, h3, e9, o3, u3, c0, f0⟩ := f19
                    have h170 := (eval_tmp a 170).symm.trans e9
                    clear e9
                    obtain ⟨UF, hn3⟩ := Upd.field (v := .slice C3 (js.length + 1) n3) 0 hbA hs (Hp.le_refl _) (u3.before hbr)
                    have l19 := hall ⟨19, .data⟩ (by simp) rfl
                    refine wpOp_step (o := _) rfl ?_
                    intro K' hK'
                    rw [if_pos (by rfl)]
                    go_simp
                    have hs9 := getD_set_self (ls := ls) (i := 22) hn2
                    exact hK' _ _ ⟨undef, rfl, fun hz => absurd rfl hz, ⟨fun hz => (by rw [getD_up l19] at hz; cases hz), fun _ => ⟨C3, n3, h3, o3, UF, hn3⟩⟩, fun k v _ hh => rpF_end hs9 l19 hh⟩
                  | k + 23, ho => exact absurd ho (by simp)
                · intro ls a' V hl g kp _
                  obtain ⟨C3, n3, h3, ho3, UF, hn3⟩ := g.2 (hl 22 (by simp))
                  have ha := kp.act [151, 152, 153, 154, 155, 156, 157, 158, 159, 160, 161, 162, 163, 164, 165, 166, 167, 168, 169, 170, 171, 172] (by kernel_rfl)
                  simp only [layAll, List.foldl_cons, List.foldl_nil] at ha
                  clear kp g hl
                  generalize a'.eval (.tmp 151) = s151 at ha
                  generalize a'.eval (.tmp 152) = s152 at ha
                  generalize a'.eval (.tmp 153) = s153 at ha
                  generalize a'.eval (.tmp 154) = s154 at ha
                  generalize a'.eval (.tmp 155) = s155 at ha
                  generalize a'.eval (.tmp 156) = s156 at ha
                  generalize a'.eval (.tmp 157) = s157 at ha
                  generalize a'.eval (.tmp 158) = s158 at ha
                  generalize a'.eval (.tmp 159) = s159 at ha
                  generalize a'.eval (.tmp 160) = s160 at ha
                  generalize a'.eval (.tmp 161) = s161 at ha
                  generalize a'.eval (.tmp 162) = s162 at ha
                  generalize a'.eval (.tmp 163) = s163 at ha
                  generalize a'.eval (.tmp 164) = s164 at ha
                  generalize a'.eval (.tmp 165) = s165 at ha
                  generalize a'.eval (.tmp 166) = s166 at ha
                  generalize a'.eval (.tmp 167) = s167 at ha
                  generalize a'.eval (.tmp 168) = s168 at ha
                  generalize a'.eval (.tmp 169) = s169 at ha
                  generalize a'.eval (.tmp 170) = s170 at ha
                  generalize a'.eval (.tmp 171) = s171 at ha
                  generalize a'.eval (.tmp 172) = s172 at ha
                  simp only [Act.put, List.setIfInBounds_toArray, List.set_cons_succ, List.set_cons_zero] at ha
                  subst ha
                  refine ‹∀ (a : Act) (w : World), Code.wp _ _ _ a w → _› _ _ ?_
                  have hcV : V.cell? ⟨b, 0, none⟩ = some (.slice C3 (js.length + 1) n3) := by rw [cell_of_row V b 0 _ _ _ (UF.sub b _ Hp.put_self)]; rfl
                  go_wp2
                  go_ret2
                  exact ⟨_, by unfold postSeq; rw [HE.out]; rfl, ⟨_, Hp.put_self, C3, n3, by unfold post; rw [HE.out, if_pos rfl, List.length_append]; rfl, by rw [Hp.put_del hn3]; unfold post; rw [HE.out, if_pos rfl]; exact ho3⟩, UF⟩
      · have hcb : refCheckB xs = false := by rw [← hck]; simpa using hC
        rw [hcb] at KC
        have HE : Hid (postE js ent per 2 of xs = 2) := by unfold Hid; rw [HP1.out, HL2.out, hcb, if_pos (by simp)]
        clear HP1 HL2 hck hcb hC AC htm
        go_wp2_with fail
        refine (KC _ hb5).mono ?_
        rintro e w1 ⟨rfl, B1⟩
        go_wp2
        go_ret2
        exact .no HE.out (by decide) hp hs (hb5.trans (B1.mono hb5.size))
end Go.Proofs.Ytbaklmlnfdlmmaa
end
section
/- The walk of the document's Post. -/
namespace Go.Proofs.Ytbaklmlnfdlmmaa
open Go.RowKit Go.Sl
set_option maxHeartbeats 8000000
set_option maxRecDepth 100000
theorem refPost_calls (b : Nat) (js : List SJ) (ent : ByteArray) (per kind of : Int) (h : Hp) (w : World) (hs : h.sub w) (S : RSto h b js)
    (D : Option Addr) (cd : Nat) (xs : List SItem) (k : Hp) (ks : k.sub w) (sy : Sl kItem k D cd xs) :
    Calls Try.prog 10 #[.pointer (some ⟨b, 0, none⟩), .string ent, .int .i64 per, .int .i64 kind, .int .i64 of, .slice D xs.length cd] w (RPostAns b js ent per kind of xs h w) := by
  obtain ⟨cs, hb, A, ca, rfl, ow⟩ := S.pt
  have hp : Pt kSt 28 h b js := S.pt
  have hl := S.good.len
  have hbw := hs b _ hb
  have hd := hs.del b
  have hc : w.cell? ⟨b, 0, none⟩ = some (.slice A js.length ca) := by rw [cell_of_row w b 0 _ _ _ hbw]; rfl
  have m1 := ow.small
  have KC := fun (W : World) (hW : Below w.heap.size w W) => refCheck_calls D cd xs k W (ks.of_below hW) sy
  have AC := fun (W : World) (hW : Below w.heap.size w W) => refAll_calls b A ca js ent 399 (h.del b) W (hd.of_below hW) ((hW.cell (World.block_lt_of_cell? w _ hc)).trans hc) ow.sl hl S.good.lines
  cases hE0 : ent.toList.isEmpty with
  | true =>
    have HE : Hid (postE js ent per kind of xs = 1) := by unfold Hid postE; rw [if_pos (by simp [argsBad, hE0])]
    have hE1 : ent.toList = [] := by simpa using hE0
    clear KC AC
    go_enter Try.func10, Try.ntmps10
    go_wp2
    go_ret2
    exact .no HE.out (by decide) hp hs (Below.refl _ _)
  | false =>
  cases hP0 : decide (0 ≤ per ∧ per ≤ 399) with
  | false =>
    have HE : Hid (postE js ent per kind of xs = 1) := by unfold Hid postE; rw [if_pos (by simp only [argsBad, hE0, hP0]; rfl)]
    have PC := fun W => refPeriod_calls per W
    rw [hP0] at PC
    clear KC AC hP0
    go_enter Try.func10, Try.ntmps10
    go_wp2_with (go_at_call 25; refine (PC _).mono ?_; rintro e w' ⟨rfl, rfl⟩)
    go_ret2
    exact .no HE.out (by decide) hp hs (Below.refl _ _)
  | true =>
  have PC := fun W => refPeriod_calls per W
  rw [hP0] at PC
  have hk : (kind = 1 ∧ of ≠ 0 ∨ kind ≠ 1 ∧ kind ≠ 2) ∨ (kind = 1 ∧ of = 0 ∨ kind = 2) := by omega
  rcases hk with hk | hk
  · have HE : Hid (postE js ent per kind of xs = 1) := by
      unfold Hid postE; rw [if_pos]
      simp only [argsBad, hE0, hP0]
      rcases hk with ⟨h1, h2⟩ | ⟨h1, h2⟩ <;> simp [h1, h2]
    clear KC AC hP0
    rcases hk with ⟨rfl, h2⟩ | ⟨h1, h2⟩
    · have h2b : (of != 0) = true := by simpa using h2
      clear h2
      go_enter Try.func10, Try.ntmps10
      go_wp2_with (go_at_call 25; refine (PC _).mono ?_; rintro e w' ⟨rfl, rfl⟩)
      go_ret2
      exact .no HE.out (by decide) hp hs (Below.refl _ _)
    · have h1b : (kind != 1) = true := by simpa using h1
      have h2b : (kind != 2) = true := by simpa using h2
      clear h1 h2
      go_enter Try.func10, Try.ntmps10
      go_wp2_with (go_at_call 25; refine (PC _).mono ?_; rintro e w' ⟨rfl, rfl⟩)
      go_ret2
      exact .no HE.out (by decide) hp hs (Below.refl _ _)
  rcases hk with ⟨rfl, rfl⟩ | rfl
  · exact refPost_one b js ent per h w hs hE0 hP0 S D cd xs k ks sy
  · exact refPost_two b js ent per of h w hs hE0 hP0 S D cd xs k ks sy
end Go.Proofs.Ytbaklmlnfdlmmaa
end
section
/- keep.Same over api.Line: the same things? -/
namespace Go.Proofs.Ytbaklmlnfdlmmaa
open Go.RowKit Go.Sl
set_option maxHeartbeats 1000000
set_option maxRecDepth 100000
theorem same_line (A B : Option Addr) (ca cb : Nat) (xs ys : List SItem) (h k : Hp) (w : World) (hs : h.sub w) (ks : k.sub w) (sx : Sl kItem h A ca xs) (sy : Sl kItem k B cb ys) :
    Calls Try.prog 13 #[.slice A xs.length ca, .slice B ys.length cb] w fun e w' => e = .returned (.bool (eqB xs ys)) ∧ Below w.heap.size w w' := by
  have m1 := sx.small
  have m2 := sy.small
  by_cases hl : xs.length = ys.length
  · have hl1 : ((xs.length : Int) == (ys.length : Int)) = true := by simp [hl]
    have hl2 : ((xs.length : Int) != (ys.length : Int)) = false := by simp [hl]
    have hL := Lib.hid hl
    clear hl
    go_enter Try.func13, Try.ntmps13
    go_wp2
    clear hl1 hl2
    go_loopw [5] (fun i wr => ∃ j : Nat, j ≤ xs.length ∧ i = .int .i64 j ∧ Hid (xs.take j = ys.take j) ∧ Below w.heap.size w wr) (fun i _ => xs.length - (intOf i).toNat)
    case atStart => exact ⟨0, by omega, rfl, rfl, Below.refl _ _⟩
    case round =>
      obtain ⟨j, hj, rfl, he, hb⟩ := hrel
      by_cases hlt : j < xs.length
      · have hlt2 : j < ys.length := by have := hL.out; omega
        obtain ⟨x, hx⟩ := some_of_lt hlt
        obtain ⟨y, hy⟩ := some_of_lt hlt2
        obtain ⟨b1, o1, rfl, c1, c2⟩ := sx.item (hs.of_below hb) hx
        obtain ⟨b2, o2, rfl, d1, d2⟩ := sy.item (ks.of_below hb) hy
        have hn := ne_line x y
        have i1 : (0 : Int) ≤ (j : Int) := by omega
        have i2 : (j : Int) < (xs.length : Int) := by omega
        have i3 : (j : Int) < (ys.length : Int) := by omega
        have hE := take_both hx hy
        by_cases hxy : x = y
        · have hd := neB_f hxy
          have hE2 := hE.2 ⟨he, hxy⟩
          clear hxy hE
          go_wp2
          go_region_held3 (fun w' => w'.cell? ⟨b1, o1 + j * 2, none⟩ = some (.int .i64 x.kind) ∧ w'.cell? ⟨b1, o1 + j * 2 + 1, none⟩ = some (.int .i64 x.amt) ∧ w'.cell? ⟨b2, o2 + j * 2, none⟩ = some (.int .i64 y.kind) ∧ w'.cell? ⟨b2, o2 + j * 2 + 1, none⟩ = some (.int .i64 y.amt)) (go_keep) (fail)
          go_wp2
          go_roundw
          case rel => exact ⟨j + 1, by omega, by go_num, hE2, hb.drew⟩
          case measure => simp [intOf]; omega
        · have hd := neB_t hxy
          have hne : Hid (xs ≠ ys) := fun e => hxy (by have := hx.out; rw [e, hy.out] at this; exact (Option.some.inj this).symm)
          clear hxy hE
          go_wp2
          go_region_held3 (fun w' => w'.cell? ⟨b1, o1 + j * 2, none⟩ = some (.int .i64 x.kind) ∧ w'.cell? ⟨b1, o1 + j * 2 + 1, none⟩ = some (.int .i64 x.amt) ∧ w'.cell? ⟨b2, o2 + j * 2, none⟩ = some (.int .i64 y.kind) ∧ w'.cell? ⟨b2, o2 + j * 2 + 1, none⟩ = some (.int .i64 y.amt)) (go_keep) (fail)
          go_wp2
          go_ret
          exact ⟨by rw [eqB_f hne.out]; rfl, hb.drew⟩
      · have hfin : Hid (xs = ys) := by
          have h1 := he.out
          have hjl : j = xs.length := by omega
          rw [hjl, List.take_length] at h1
          rw [h1, hL.out, List.take_length]; rfl
        go_wp2
        go_ret
        exact ⟨by rw [eqB_t hfin.out]; rfl, hb⟩
  · have hl1 : ((xs.length : Int) == (ys.length : Int)) = false := by simp; omega
    have hl2 : ((xs.length : Int) != (ys.length : Int)) = true := by simp; omega
    have hne : Hid (xs ≠ ys) := fun e => hl (by rw [e])
    clear hl
    go_enter Try.func13, Try.ntmps13
    go_wp2
    go_ret
    exact ⟨by rw [eqB_f hne.out]; rfl, Below.refl _ _⟩
end Go.Proofs.Ytbaklmlnfdlmmaa
end
section
/- law07.Journals of journals that are alike; the document's store at a body's own memory. -/
namespace Go.Proofs.Ytbaklmlnfdlmmaa
open Go.RowKit Go.Sl
set_option maxHeartbeats 4000000
set_option maxRecDepth 100000
theorem sameJou_calls (A B : Option Addr) (ca cb : Nat) (js : List SJ) (h k : Hp) (w : World) (hs : h.sub w) (ks : k.sub w) (sx : Sl kJ h A ca js) (sy : Sl kJ k B cb js) :
    Calls Try.prog 11 #[.slice A js.length ca, .slice B js.length cb] w fun e w' => e = .returned (.bool true) ∧ Below w.heap.size w w' := by
  have m1 := sx.small
  have hl2 : ((js.length : Int) != (js.length : Int)) = false := by simp
  go_enter Try.func11, Try.ntmps11
  go_wp2
  clear hl2
  go_loopw [13] (fun i wr => ∃ j : Nat, j ≤ js.length ∧ i = .int .i64 j ∧ Below w.heap.size w wr) (fun i _ => js.length - (intOf i).toNat)
  case atStart => exact ⟨0, by omega, rfl, Below.refl _ _⟩
  case round =>
    obtain ⟨j, hj, rfl, hb⟩ := hrel
    by_cases hlt : j < js.length
    · obtain ⟨x, hx⟩ := some_of_lt hlt
      obtain ⟨b1, o1, C, cc, rfl, sl1, c1, c2, c3, c4, c5, c6⟩ := sx.jou (hs.of_below hb) hx
      obtain ⟨b2, o2, D, cd, rfl, sl2, d1, d2, d3, d4, d5, d6⟩ := sy.jou (ks.of_below hb) hx
      have i1 : (0 : Int) ≤ (j : Int) := by omega
      have i2 : (j : Int) < (js.length : Int) := by omega
      have SC := fun (W : World) (hW : Below wr.heap.size wr W) => same_line C D cc cd x.lines x.lines h k W (hs.of_below (hb.trans (hW.mono hb.size))) (ks.of_below (hb.trans (hW.mono hb.size))) sl1 sl2
      rw [eqB_t rfl] at SC
      go_wp2
      simp only [List.append_eq, List.cons_append, List.nil_append]
      go_region_held3 (fun w' => w'.cell? ⟨b1, o1 + j * 6, none⟩ = some (.int .i64 x.seq) ∧ w'.cell? ⟨b1, o1 + j * 6 + 1, none⟩ = some (.string x.ent) ∧ w'.cell? ⟨b1, o1 + j * 6 + 2, none⟩ = some (.int .i64 x.period) ∧ w'.cell? ⟨b1, o1 + j * 6 + 3, none⟩ = some (.int .i64 x.kind) ∧ w'.cell? ⟨b1, o1 + j * 6 + 4, none⟩ = some (.int .i64 x.of) ∧ w'.cell? ⟨b1, o1 + j * 6 + 5, none⟩ = some (.slice C x.lines.length cc) ∧ w'.cell? ⟨b2, o2 + j * 6, none⟩ = some (.int .i64 x.seq) ∧ w'.cell? ⟨b2, o2 + j * 6 + 1, none⟩ = some (.string x.ent) ∧ w'.cell? ⟨b2, o2 + j * 6 + 2, none⟩ = some (.int .i64 x.period) ∧ w'.cell? ⟨b2, o2 + j * 6 + 3, none⟩ = some (.int .i64 x.kind) ∧ w'.cell? ⟨b2, o2 + j * 6 + 4, none⟩ = some (.int .i64 x.of) ∧ w'.cell? ⟨b2, o2 + j * 6 + 5, none⟩ = some (.slice D x.lines.length cd))
        (first | go_keep | (go_split_ands; exact ⟨(B1.cell (World.block_lt_of_cell? _ _ c1)).trans c1, (B1.cell (World.block_lt_of_cell? _ _ c2)).trans c2, (B1.cell (World.block_lt_of_cell? _ _ c3)).trans c3, (B1.cell (World.block_lt_of_cell? _ _ c4)).trans c4, (B1.cell (World.block_lt_of_cell? _ _ c5)).trans c5, (B1.cell (World.block_lt_of_cell? _ _ c6)).trans c6, (B1.cell (World.block_lt_of_cell? _ _ d1)).trans d1, (B1.cell (World.block_lt_of_cell? _ _ d2)).trans d2, (B1.cell (World.block_lt_of_cell? _ _ d3)).trans d3, (B1.cell (World.block_lt_of_cell? _ _ d4)).trans d4, (B1.cell (World.block_lt_of_cell? _ _ d5)).trans d5, (B1.cell (World.block_lt_of_cell? _ _ d6)).trans d6⟩))
        (first | (go_at_call 13; refine (SC _ (Below.refl _ _).drew).mono ?_; rintro e w1 ⟨rfl, B1'⟩; have B1 := (Below.refl wr.heap.size wr).drew.trans B1') | fail)
      go_wp2
      go_roundw
      case rel => exact ⟨j + 1, by omega, by go_num, hb.trans (B1.mono hb.size)⟩
      case measure => simp [intOf]; omega
    · go_wp2
      go_ret
      exact ⟨rfl, hb⟩
theorem RSto.box (b : Nat) : RSto (Hp.box b [.slice none 0 0] 28) b [] := ⟨⟨_, Hp.one_self _ _, none, 0, rfl, Ow.none _ _⟩, .nil, .nil⟩
section
variable {w0 w : World} {L : List Hp} {h : Hp} {b : Nat} {js : List SJ}
theorem RSto.post (S : RSto h b js) (E : Env w0 w L) (i : Nat) (hi : L[i]? = some h) (ent : ByteArray) (per kind of : Int) {D : Option Addr} {cd : Nat} {xs : List SItem} {k : Hp} (sy : Sl kItem k D cd xs) (ks : k.sub w) :
    Calls Try.prog 10 #[.pointer (some ⟨b, 0, none⟩), .string ent, .int .i64 per, .int .i64 kind, .int .i64 of, .slice D xs.length cd] w fun e w' =>
      ∃ h', e = .returned (.tuple #[.int .i64 (postSeq js ent per kind of xs), .int .i64 (postE js ent per kind of xs)]) ∧ RSto h' b (post js ent per kind of xs) ∧ Env w0 w' (L.set i h') :=
  (refPost_calls b js ent per kind of h w (E.sub i hi) S D cd xs k ks sy).mono fun _ _ ⟨h', he, hp, u⟩ => ⟨h', he, ⟨hp, S.good.post, S.num.post _ _ _ _ _⟩, E.upd i hi u⟩
theorem RSto.balance (S : RSto h b js) (E : Env w0 w L) (i : Nat) (hi : L[i]? = some h) {ent : ByteArray} {a upto : Int} {q : Int} (hq : balance js ent a upto = q) :
    Calls Try.prog 17 #[.pointer (some ⟨b, 0, none⟩), .string ent, .int .i64 a, .int .i64 upto] w fun e w' => e = .returned (.int .i64 q) ∧ Env w0 w' L := by
  subst hq
  exact (refBalance_calls S (E.sub i hi) ent a upto).mono fun _ _ ⟨he, b⟩ => ⟨he, E.below b⟩
theorem RSto.trial (S : RSto h b js) (E : Env w0 w L) (i : Nat) (hi : L[i]? = some h) {ent : ByteArray} {upto : Int} {q : List SItem} (hq : trial js ent upto = q) :
    Calls Try.prog 15 #[.pointer (some ⟨b, 0, none⟩), .string ent, .int .i64 upto] w fun e w' => ∃ C cap h', e = .returned (.slice C q.length cap) ∧ Ow kItem h' C cap q ∧ Env w0 w' (L ++ [h']) := by
  subst hq
  exact (refTrial_calls S (E.sub i hi) ent upto).mono fun _ _ ⟨C, cap, h', he, ho, u⟩ => ⟨C, cap, h', he, ho, E.new u⟩
end
end Go.Proofs.Ytbaklmlnfdlmmaa
end
section
/- law07.wakes: the document's example of chapter 7. -/
namespace Go.Proofs.Ytbaklmlnfdlmmaa
open Go.RowKit Go.Sl
set_option maxHeartbeats 1000000
set_option maxRecDepth 100000
theorem wakes07 (w : World) : Calls Try.prog 18 #[] w fun e w' => e = .returned (.bool true) ∧ Below w.heap.size w w' := by
  have E0 := Env.start w
  have HE : Hid (postE [] ⟨#[97]⟩ 1 1 0 [⟨1, 5⟩, ⟨2, -5⟩] = 0) := postE_prov (by rw [tl_data]; simp) (by omega) (by decide) (by decide) (by decide)
  have HB : Hid (balance [⟨1, ⟨#[97]⟩, 1, 1, 0, [⟨1, 5⟩, ⟨2, -5⟩]⟩] ⟨#[97]⟩ 1 1 = 5) := by unfold Hid; simp [balance, share, netF, fewB, money, accSum]
  go_enter Try.func18, Try.ntmps18
  go_wp2_with fail
  refine (Sto.new E0).mono ?_
  rintro e w1 ⟨hS, b, rfl, S, E1⟩
  go_wp2_with fail
  refine (S.journals E1 0 rfl).mono ?_
  rintro e w2 ⟨C, cap, h2, rfl, _, E2⟩
  go_wp2_with fail
  refine (S.post_ok (E2.alloc _) 0 rfl (xs := [⟨1, 5⟩, ⟨2, -5⟩]) (Sl.lit (Hp.one_self _ _) (by unfold maxLen; decide)) ((E2.alloc _).sub 2 rfl) 2 rfl HE.out 1 rfl).mono ?_
  rintro e w3 ⟨h3, rfl, S3, E3⟩
  go_wp2_with fail
  refine (S3.balance E3 0 rfl HB.out).mono ?_
  rintro e w4 ⟨rfl, E4⟩
  go_wp2
  go_ret
  exact ⟨rfl, E4.low⟩
end Go.Proofs.Ytbaklmlnfdlmmaa
end
section
/- keep.Copy over api.Line. -/
namespace Go.Proofs.Ytbaklmlnfdlmmaa
open Go.RowKit Go.Sl
set_option maxHeartbeats 1000000
set_option maxRecDepth 100000
end Go.Proofs.Ytbaklmlnfdlmmaa
end
section
/- The walk of law06.Some, where nothing is turned. -/
namespace Go.Proofs.Ytbaklmlnfdlmmaa
open Go.RowKit Go.Sl
set_option maxHeartbeats 400000
set_option maxRecDepth 100000
theorem someKeep_calls (A B : Option Addr) (ca cb : Nat) (ks ams : List Int) (at_ what : Int) (h k : Hp) (w : World) (hs : h.sub w) (qs : k.sub w) (sx : Sl kInt h A ca ks) (sy : Sl kInt k B cb ams)
    (hw : ∀ n ∈ ams, I64 n) (hwh : 6 ≤ within what 12) :
    Calls Try.prog 6 #[.slice A ks.length ca, .slice B ams.length cb, .int .i64 at_, .int .i64 what, .bool false] w fun e w' => ∃ C cap h', e = .returned (.slice C (rightL ks ams).length cap) ∧ Ow kItem h' C cap (rightL ks ams) ∧ Upd Hp.none h' w w' := by
  have R := playRight_calls A B ca cb ks ams h k w hs qs sx sy hw
  have hf := right_fine ks ams
  generalize rightL ks ams = L at *
  have hl := hf.len
  go_enter Try.func6, Try.ntmps6
  go_wp2_with fail
  refine R.mono ?_
  rintro e w1 ⟨C, cap, h1, rfl, o1, u1⟩
  by_cases h0 : L = []
  · subst h0
    go_wp2
    go_ret
    exact ⟨C, cap, h1, rfl, o1, u1⟩
  · have hp : 0 < L.length := List.length_pos_iff.2 h0
    have hz : ((L.length : Int) == 0) = false := by simp; omega
    have e0 : (within what 12 == 0) = false := by simp; omega
    have e1 : (within what 12 == 1) = false := by simp; omega
    have e2 : (within what 12 == 2) = false := by simp; omega
    have e3 : (within what 12 == 3) = false := by simp; omega
    have e4 : (within what 12 == 4) = false := by simp; omega
    have e5 : (within what 12 == 5) = false := by simp; omega
    go_wp2_with (go_at_call 5; refine (within_calls _ _ _ (by omega) (by omega)).mono ?_; rintro e w' ⟨rfl, rfl⟩)
    go_ret
    exact ⟨C, cap, h1, rfl, o1, u1⟩
end Go.Proofs.Ytbaklmlnfdlmmaa
end
