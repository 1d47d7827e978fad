/- The walk of the law FxDifference. -/
import Derived.Test.YtnpnndifhlihhaaFxWakes
import Derived.Test.YtnpnndifhlihhaaFxItems
namespace Go.Proofs.Ytnpnndifhlihhaa
open Go.RowKit Go.Sl
set_option maxHeartbeats 400000
set_option maxRecDepth 100000
def centred (x : SItem) : SItem := ⟨x.kind, within x.amt 10000000000 - 5000000000⟩
theorem centred_bd (x : SItem) : -5000000000 ≤ (centred x).amt ∧ (centred x).amt ≤ 5000000000 := by
  have h1 := within_lo x.amt (n := 10000000000) (by omega)
  have h2 := within_hi x.amt (n := 10000000000) (by omega)
  simp only [centred]
  omega
def cenTo (xs : List SItem) (j : Nat) : List SItem := (xs.take j).map centred
theorem fxDifference_calls (A B : Option Addr) (ca cb : Nat) (ks ams : List Int) (rt : Int) (h k : Hp) (w : World) (hs : h.sub w) (qs : k.sub w) (sx : Sl kInt h A ca ks) (sy : Sl kInt k B cb ams)
    (hw : ∀ n ∈ ams, I64 n) :
    Calls Try.prog 3 #[.slice A ks.length ca, .slice B ams.length cb, .int .i64 rt] w fun e w' => e = .returned (.bool true) ∧ Below w.heap.size w w' := by
  go_enter Try.func3, Try.ntmps3
  go_wp2_with fail
  refine (items_calls A B ca cb ks ams 20 h k _ hs qs sx sy hw (by omega)).mono ?_
  rintro e w1 ⟨C, cap, h1, rfl, o1, u1⟩
  have hlen : (mkItems ks ams 20).length ≤ 20 := by simp [mkItems]; omega
  generalize mkItems ks ams 20 = xs at *
  have m1 := o1.small
  go_wp2
  go_loopw [8, 25] (fun s i wr => ∃ (j : Nat) (zs : List SItem) (h2 : Hp), j ≤ xs.length ∧ i = .int .i64 j ∧ s = .int .i64 (sumAmt (cenTo xs j)) ∧ Hid (zs = cenTo xs j ++ xs.drop j) ∧ Hid (zs.length = xs.length) ∧ Hid (Ow kItem h2 C cap zs) ∧ Upd Hp.none h2 w wr) (fun _ i _ => xs.length - (intOf i).toNat)
  case atStart => exact ⟨0, xs, h1, by omega, rfl, rfl, rfl, rfl, o1, u1⟩
  case round =>
    obtain ⟨j, zs, h2, l1, rfl, rfl, hz, hzl, ho, hu⟩ := hrel
    have hb1 := sumAmt_bd (b := 5000000000) (by omega) (cenTo xs j) (fun y hy => by
      obtain ⟨x, hx, rfl⟩ := List.mem_map.1 hy
      exact centred_bd x)
    have hcl : (cenTo xs j).length ≤ 20 := by simp [cenTo]; omega
    have hb3 : -100000000000 ≤ sumAmt (cenTo xs j) ∧ sumAmt (cenTo xs j) ≤ 100000000000 := by omega
    clear hb1
    obtain ⟨q1, q2⟩ := hb3
    by_cases hlt : j < xs.length
    · obtain ⟨x, hx⟩ := some_of_lt hlt
      have hzx : Hid (zs[j]? = some x) := by
        unfold Hid
        rw [hz.out]; unfold cenTo; rw [map_get_step]; exact hx.out
      obtain ⟨b1, off1, rfl, c1, c2⟩ := ho.out.sl.item hu.sub hzx
      have hfz := ho.out.cell_free hu.sub
      have i1 : (0 : Int) ≤ (j : Int) := by omega
      have i2 : (j : Int) < (xs.length : Int) := by omega
      have hc1 := within_lo x.amt (n := 10000000000) (by omega)
      have hc2 := within_hi x.amt (n := 10000000000) (by omega)
      obtain ⟨h3, ho3, hu3⟩ := Ow.set (x' := centred x) (v := .int .i64 (within x.amt 10000000000 - 5000000000)) (j := 1) ho.out hu.sub hzx.out (by decide) rfl
      have HS : Hid (sumAmt (cenTo xs (j + 1)) = sumAmt (cenTo xs j) + (within x.amt 10000000000 - 5000000000)) := by
        unfold Hid cenTo; rw [take_next hx, List.map_append, List.map_singleton, sumAmt_snoc]; rfl
      go_wp2_with (go_at_call 16; refine (within_calls _ _ _ (by omega) (by omega)).mono ?_; rintro e w' ⟨rfl, rfl⟩)
      go_roundw
      case rel => exact ⟨j + 1, zs.set j (centred x), h3, by omega, by go_num, by rw [HS.out], by
          unfold Hid
          rw [hz.out]; unfold cenTo; rw [map_set_step _ _ _ _ hx.out], by unfold Hid; rw [List.length_set]; exact hzl.out, ho3, hu.trans hu3⟩
      case measure => simp [intOf]; omega
    · obtain rfl : j = xs.length := by omega
      rw [List.drop_length, List.append_nil] at hz
      rw [← hz.out] at q1 q2 ⊢
      have hzn : ∀ x ∈ zs, nearB x.amt = true := fun x hx => by
        rw [hz.out] at hx
        obtain ⟨y, _, rfl⟩ := List.mem_map.1 hx
        have := centred_bd y
        simp only [nearB, decide_eq_true_eq]; omega
      have hzs : nearB (sumAmt zs) = true := by simp only [nearB, decide_eq_true_eq]; omega
      have hz2 : zs.length ≤ 20 := by rw [hzl.out]; exact hlen
      have hr1 := within_lo rt (n := 10000000) (by omega)
      have hr2 := within_hi rt (n := 10000000) (by omega)
      rw [← hzl.out]
      clear hz hzl hcl
      have hdf := conv_diff zs (1 + within rt 10000000) (by omega)
      have hcv := convItems_length zs (1 + within rt 10000000)
      have HCV := Lib.hid hcv
      have hzp := (partOf_bd (n := sumAmt zs) (r := 1 + within rt 10000000) (by omega) (by omega) (by omega) (by omega))
      clear hcv
      have m2 := ho.out.small
      generalize hrt : 1 + within rt 10000000 = r at *
      have HRT := Lib.hid hrt
      clear hrt
      go_wp2_with (go_at_call 16; refine (within_calls _ _ _ (by omega) (by omega)).mono ?_; rintro e w' ⟨rfl, rfl⟩)
      rw [HRT.out]
      refine (convert_ok C cap zs r h2 _ hu.sub ho.out.sl hz2 (by have := HRT.out; omega) (by have := HRT.out; omega) hzn hzs).mono ?_
      rintro e w2 ⟨C2, cap2, h4, rfl, o4, u4⟩
      go_wp2_with fail
      refine (convert_ok C cap zs 1000000 h2 _ (hu.sub.of_below u4.below) ho.out.sl hz2 (by omega) (by omega) hzn hzs).mono ?_
      rw [partOf_one, convItems_one, Int.sub_self]
      rintro e w3 ⟨C3, cap3, h5, rfl, o5, u5⟩
      go_wp2_with fail
      refine (same_item C3 C cap3 cap zs zs h5 h2 _ u5.sub ((hu.sub.of_below u4.below).of_below u5.below) o5.sl ho.out.sl).mono ?_
      rw [eqB_t (rfl : zs = zs)]
      rintro e w4 ⟨rfl, b4⟩
      go_wp2
      have s4 := (u4.sub.of_below u5.below).of_below b4
      have s2 := ((hu.sub.of_below u4.below).of_below u5.below).of_below b4
      have hbel : Below w.heap.size w w4 := ((hu.below.trans (u4.below.mono hu.size)).trans (u5.below.mono (Nat.le_trans hu.size u4.size))).trans (b4.mono (Nat.le_trans (Nat.le_trans hu.size u4.size) u5.size))
      have hd1 : -1000 ≤ partOf (sumAmt zs) r - sumAmt (convItems zs r) ∧ partOf (sumAmt zs) r - sumAmt (convItems zs r) ≤ 1000 := by omega
      generalize hdd : partOf (sumAmt zs) r - sumAmt (convItems zs r) = d at *
      have HD := Lib.hid hdd
      clear hdd
      obtain ⟨d1, d2⟩ := hd1
      obtain ⟨d3, d4⟩ := hdf
      go_loopw [16, 89] (fun t i wr => ∃ (j : Nat), j ≤ zs.length ∧ i = .int .i64 j ∧ t = .int .i64 (d + sumAmt ((convItems zs r).take j)) ∧ Below w4.heap.size w4 wr) (fun _ i _ => zs.length - (intOf i).toNat)
      case atStart => exact ⟨0, by omega, rfl, by simp [sumAmt], Below.refl _ _⟩
      case round =>
        obtain ⟨j, l1, rfl, rfl, hb⟩ := hrel
        have hb2 := sumAmt_bd (b := 4000000000001) (by omega) ((convItems zs r).take j) (fun y hy => by
          obtain ⟨x, hx, rfl⟩ := List.mem_map.1 (List.mem_of_mem_take hy)
          have := hzn x hx
          simp only [nearB, decide_eq_true_eq] at this
          have := HRT.out
          exact partOf_bd (by omega) (by omega) (by omega) (by omega))
        rw [List.length_take, HCV.out] at hb2
        have hb4 : -80000000000020 ≤ sumAmt ((convItems zs r).take j) ∧ sumAmt ((convItems zs r).take j) ≤ 80000000000020 := by omega
        clear hb2
        obtain ⟨q3, q4⟩ := hb4
        by_cases hlt : j < zs.length
        · obtain ⟨x, hx⟩ := some_of_lt hlt
          have hy : Hid ((convItems zs r)[j]? = some ⟨x.kind, partOf x.amt r⟩) := by
            unfold Hid convItems; rw [List.getElem?_map, hx.out]; rfl
          have HS := Lib.hid (take_next hy)
          obtain ⟨b1, o1', e1, c1, c2⟩ := ho.out.sl.item (s2.of_below hb) hx
          obtain ⟨b2, o2', e2, c3, c4⟩ := o4.sl.item (s4.of_below hb) hy
          subst e1
          subst e2
          have hxr : -8000000000000 ≤ partOf x.amt r ∧ partOf x.amt r ≤ 8000000000000 := by
            have := hzn x (List.mem_of_getElem? hx.out)
            simp only [nearB, decide_eq_true_eq] at this
            have := HRT.out
            have := partOf_bd (n := x.amt) (r := r) (by omega) (by omega) (by omega) (by omega)
            omega
          obtain ⟨x1, x2⟩ := hxr
          have i1 : (0 : Int) ≤ (j : Int) := by omega
          have i2 : (j : Int) < (zs.length : Int) := by omega
          dsimp only at c3 c4
          go_wp2
          go_region_held3 (fun w' => w'.cell? ⟨b1, o1' + j * 2, none⟩ = some (.int .i64 x.kind) ∧ w'.cell? ⟨b2, o2' + j * 2, none⟩ = some (.int .i64 x.kind)) (go_keep) (fail)
          go_wp2
          go_roundw
          case rel => exact ⟨j + 1, by omega, by go_num, by rw [HS.out, sumAmt_snoc, Int.add_assoc], hb.drew⟩
          case measure => simp [intOf]; omega
        · have hT : (convItems zs r).take j = convItems zs r := List.take_of_length_le (by rw [HCV.out]; omega)
          rw [hT] at q3 q4 ⊢
          have hsum : d + sumAmt (convItems zs r) = ofVal (sumAmt zs) r := by
            have h1 := HD.out
            have h2 := HRT.out
            have h3 : ofOk (sumAmt zs) r = true := by simp [ofOk]; omega
            simp only [ofVal, h3, if_true]
            omega
          rw [hsum]
          clear hsum hT q3 q4
          have t1 : decide (2 * d ≤ (zs.length : Int) + 1) = true := by simp; omega
          have t2 : decide (-(zs.length : Int) - 1 ≤ 2 * d) = true := by simp; omega
          go_wp2_with fail
          refine (refOf_calls (sumAmt zs) r _).mono ?_
          rintro e w' ⟨rfl, rfl⟩
          go_wp2_with (go_at_call 20; refine (wakes25 _).mono ?_; rintro e w6 ⟨rfl, b6⟩)
          go_ret
          exact ⟨rfl, (hbel.trans (hb.mono hbel.size)).trans (b6.mono (Nat.le_trans hbel.size hb.size))⟩
end Go.Proofs.Ytnpnndifhlihhaa
