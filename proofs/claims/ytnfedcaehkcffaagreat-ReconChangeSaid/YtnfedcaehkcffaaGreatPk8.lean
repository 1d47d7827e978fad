/- Walks and plain facts that the laws of this seat share, part 8: contracts of functions, each said at its theorem. -/
import Derived.Test.YtnfedcaehkcffaaGreatPk7
import Derived.Deep.MidRow
import Derived.OwnWalk
import Derived.Deep.DeepCutAuto
import Derived.Deep.CutBlock
set_option linter.all false
section
/- The walks of measure.Rates, NextRate, Loss; allow. -/
namespace Go.Proofs.YtnfedcaehkcffaaGreat
open Go.RowKit Go.Sl
set_option maxHeartbeats 2000000
set_option maxRecDepth 100000
set_option linter.unusedSimpArgs false
/-- What Rates answers. -/
def RatAns (E : Int) (L : List Int) (w : World) (e : Ending) (w' : World) : Prop :=
  (E ≠ 0 ∧ e = .returned (.tuple #[.slice none 0 0, .int .i64 E]) ∧ Below w.heap.size w w') ∨
  (E = 0 ∧ ∃ C cap h', e = .returned (.tuple #[.slice C L.length cap, .int .i64 0]) ∧ Ow kInt h' C cap L ∧ Upd Hp.none h' w w')
theorem RatAns.no {E q : Int} {L : List Int} {w w' : World} (hE : E = q) (h0 : q ≠ 0) (b : Below w.heap.size w w') : RatAns E L w (.returned (.tuple #[.slice none 0 0, .int .i64 q])) w' := .inl ⟨by rw [hE]; exact h0, by rw [hE], b⟩
theorem measRates_calls (b : Nat) (l : List SRate) (j : ByteArray) (A : Option Addr) (ca : Nat) (xs : List STri) (at' : Int) (h k : Hp) (w : World) (hs : h.sub w) (p : PtT h b l) (ks : k.sub w) (sx : Sl kTri k A ca xs) (hl : xs.length ≤ 1000000) :
    Calls Tryz.prog 105 #[.pointer (some ⟨b, 0, none⟩), .string j, .slice A xs.length ca, .int .i64 at'] w (RatAns (ratE l j xs at') (ratL l j xs at') w) := by
  have m1 := sx.small
  have PC := fun W : World => perRight_calls at' W
  have YC := fun W : World => perYear_calls at' W
  have hyb := yearOf_bd at'
  have E0 := (Env.start w).new (Upd.of_below (Below.refl w.heap.size w))
  simp at E0
  cases hp : perOk at' with
  | false =>
    have HE : Hid (ratE l j xs at' = 1) := by unfold Hid ratE; rw [if_pos hp]
    rw [hp] at PC
    clear hp YC
    go_enter Tryz.func105, Tryz.ntmps105
    go_wp2_with fail
    refine (PC _).mono ?_
    rintro e w' ⟨rfl, rfl⟩
    go_wp2
    go_ret2
    exact .no HE.out (by decide) (Below.refl _ _)
  | true =>
  have HP := Lib.hid hp
  rw [hp] at PC
  clear hp
  go_enter Tryz.func105, Tryz.ntmps105
  go_wp2_with fail
  refine (PC _).mono ?_
  rintro e w' ⟨rfl, rfl⟩
  go_wp2
  clear PC
  go_loopw [10, 20] (fun v i wr => ∃ (q cap : Nat) (C : Option Addr) (h' : Hp) (os : List Int), q ≤ xs.length ∧ i = .int .i64 q ∧ v = .slice C q cap ∧ Hid (os.length = q) ∧ Hid (os = ratL l j (xs.take q) at') ∧ Hid (∀ z ∈ xs.take q, ratOk l j at' z = true) ∧ Ow kInt h' C cap os ∧ Env w wr [h']) (fun _ i _ => xs.length - (intOf i).toNat)
  case atStart => exact ⟨0, 0, none, Hp.none, [], by omega, rfl, rfl, rfl, rfl, by unfold Hid; simp, Ow.none _ _, E0⟩
  case round =>
    clear E0
    obtain ⟨q, cap, C, h', os, hq, rfl, rfl, hm, ho, hall, o, E⟩ := hrel
    by_cases hlt : q < xs.length
    · obtain ⟨x, hx⟩ := some_of_lt hlt
      obtain ⟨bx, ox, rfl, c1, c2, c3⟩ := sx.tri (ks.of_below E.low) hx
      have i1 : (0 : Int) ≤ (q : Int) := by omega
      have i2 : (q : Int) < (xs.length : Int) := by omega
      obtain ⟨mx, hmx⟩ : ∃ mx, max x.b (yearOf at') = mx := ⟨_, rfl⟩
      have hmx2 : max (yearOf at') x.b = mx := by omega
      have hif : (if x.b ≤ yearOf at' then yearOf at' else x.b) = mx := by omega
      have HO : Hid (ratOk l j at' x = rateB l j mx at') := by unfold Hid ratOk; rw [hmx]
      have HV : Hid (ratOf l j at' x = rateV l j mx at') := by unfold Hid ratOf; rw [hmx]
      have RC := fun (W : World) (hW : Below w.heap.size w W) => enactRate_calls b l j mx at' h W (hs.of_below hW) p
      generalize yearOf at' = yr at *
      generalize hrb : rateB l j mx at' = rb at *
      generalize hrv : rateV l j mx at' = rv at *
      clear hrb hrv
      go_upto_region 7 with fail
      replace E := E.alloc (.cells #[.int .i64 x.a, .int .i64 x.b, .int .i64 x.c] 97)
      simp at E
      obtain ⟨W, hW⟩ : ∃ W : World, W = wr.alloc (.cells #[.int .i64 x.a, .int .i64 x.b, .int .i64 x.c] 97) := ⟨_, rfl⟩
      rw [← hW] at E
      rw [← hW]
      clear hW
      have z0 := E.cell 1 rfl 0 rfl
      have z1 := E.cell 1 rfl 1 rfl
      have z2 := E.cell 1 rfl 2 rfl
      generalize wr.heap.size = bw at *
      clear c1 c2 c3
      refine wp_region_held_drew (S := (fun V => V.cell? ⟨bw, 1, none⟩ = some (.int .i64 x.b))) (by kernel_rfl) ?_ (fun hHeld => ?_)
      · (try dsimp only)
        first | (go_keep)
      refine take_on (i := 0) (by (simp only [List.getElem?_toArray, List.getElem?_cons_succ, List.getElem?_cons_zero]) <;> rfl) (by kernel_rfl) (by kernel_rfl) (by kernel_rfl) (by intro _ _ _ _ h; exact h) (by rfl) (by assumption) ?_
      apply Exists.intro
      refine ⟨?_, ?_⟩
      · intro W0 hSw
        try dsimp only at hSw
        go_simp
        try (with_reducible rfl)
      try simp only [Act.put, List.setIfInBounds_toArray, List.set_cons_zero, List.set_cons_succ]
      refine take_on (i := 1) (by (simp only [List.getElem?_toArray, List.getElem?_cons_succ, List.getElem?_cons_zero]) <;> rfl) (by kernel_rfl) (by kernel_rfl) (by kernel_rfl) (by intro _ _ _ _ h; exact h) (by rfl) (by assumption) ?_
      apply Exists.intro
      refine ⟨?_, ?_⟩
      · intro W0 hSw
        try dsimp only at hSw
        go_simp
        try (with_reducible rfl)
      try simp only [Act.put, List.setIfInBounds_toArray, List.set_cons_zero, List.set_cons_succ]
      refine take_on (i := 2) (by (simp only [List.getElem?_toArray, List.getElem?_cons_succ, List.getElem?_cons_zero]) <;> rfl) (by kernel_rfl) (by kernel_rfl) (by kernel_rfl) (by intro _ _ _ _ h; exact h) (by rfl) (by assumption) ?_
      apply Exists.intro
      refine ⟨?_, ?_⟩
      · intro W0 hSw
        try dsimp only at hSw
        go_simp
        try (with_reducible rfl)
      try simp only [Act.put, List.setIfInBounds_toArray, List.set_cons_zero, List.set_cons_succ]
      refine take_on (i := 3) (by (simp only [List.getElem?_toArray, List.getElem?_cons_succ, List.getElem?_cons_zero]) <;> rfl) (by kernel_rfl) (by kernel_rfl) (by kernel_rfl) (by intro _ _ _ _ h; exact h) (by rfl) (by assumption) ?_
      apply Exists.intro
      refine ⟨?_, ?_⟩
      · intro W0 hSw
        try dsimp only at hSw
        go_simp
        try (with_reducible rfl)
      try simp only [Act.put, List.setIfInBounds_toArray, List.set_cons_zero, List.set_cons_succ]
      refine take_on (i := 4) (by (simp only [List.getElem?_toArray, List.getElem?_cons_succ, List.getElem?_cons_zero]) <;> rfl) (by kernel_rfl) (by kernel_rfl) (by kernel_rfl) (by intro _ _ _ _ h; exact h) (by rfl) (by assumption) ?_
      apply Exists.intro
      refine ⟨?_, ?_⟩
      · intro W0 hSw
        try dsimp only at hSw
        go_simp
        try (with_reducible rfl)
      try simp only [Act.put, List.setIfInBounds_toArray, List.set_cons_zero, List.set_cons_succ]
      refine take_on (i := 7) (by (simp only [List.getElem?_toArray, List.getElem?_cons_succ, List.getElem?_cons_zero]) <;> rfl) (by kernel_rfl) (by kernel_rfl) (by kernel_rfl) (by intro _ _ _ _ h; exact h) (by rfl) (by assumption) ?_
      apply Exists.intro
      refine ⟨?_, ?_⟩
      · intro W0 hSw
        try dsimp only at hSw
        go_simp
        try (with_reducible rfl)
      try simp only [Act.put, List.setIfInBounds_toArray, List.set_cons_zero, List.set_cons_succ]
      refine wpAnyH_ready (rs := [5]) (by kernel_rfl) (by simp) ?_
      refine AllReadyH.cons (by (simp only [List.getElem?_toArray, List.getElem?_cons_succ, List.getElem?_cons_zero]) <;> rfl) (fun K hK => ?_) AllReadyH.nil
      go_simp
      refine (YC _).mono ?_
      rintro e w' ⟨rfl, rfl⟩
      go_wp2_with fail
      refine hK.out _ _ ?_ (fun hHeld => ?_)
      · (try dsimp only)
        first | (exact hkeep) | (go_keep)
      clear hK K
      try simp only [Act.put, List.setIfInBounds_toArray, List.set_cons_zero, List.set_cons_succ]
      refine take_on (i := 6) (by (simp only [List.getElem?_toArray, List.getElem?_cons_succ, List.getElem?_cons_zero]) <;> rfl) (by kernel_rfl) (by kernel_rfl) (by kernel_rfl) (by intro _ _ _ _ h; exact h) (by rfl) (by assumption) ?_
      apply Exists.intro
      refine ⟨?_, ?_⟩
      · intro W0 hSw
        try dsimp only at hSw
        go_simp
        try (with_reducible rfl)
      try simp only [Act.put, List.setIfInBounds_toArray, List.set_cons_zero, List.set_cons_succ]
      refine wpAnyH_ready (rs := [8]) (by kernel_rfl) (by simp) ?_
      refine AllReadyH.cons (by (simp only [List.getElem?_toArray, List.getElem?_cons_succ, List.getElem?_cons_zero]) <;> rfl) (fun K hK => ?_) AllReadyH.nil
      go_simp
      refine (RC _ (Env.low (by repeat (first | (with_reducible exact E) | (with_reducible apply Env.drew) | (with_reducible apply Env.drewN) | (with_reducible apply Env.alloc'))))).mono ?_
      rintro e w5 ⟨rfl, B5⟩
      have E5 := E.drew.below B5
      have hkeep := E5.cell 1 rfl 1 rfl
      go_wp2_with fail
      refine hK.out _ _ ?_ (fun hHeld => ?_)
      · (try dsimp only)
        first | (exact hkeep) | (go_keep)
      clear hK K
      try simp only [Act.put, List.setIfInBounds_toArray, List.set_cons_zero, List.set_cons_succ]
      refine take_on (i := 9) (by (simp only [List.getElem?_toArray, List.getElem?_cons_succ, List.getElem?_cons_zero]) <;> rfl) (by kernel_rfl) (by kernel_rfl) (by kernel_rfl) (by intro _ _ _ _ h; exact h) (by rfl) (by assumption) ?_
      apply Exists.intro
      refine ⟨?_, ?_⟩
      · intro W0 hSw
        try dsimp only at hSw
        go_simp
        try (with_reducible rfl)
      try simp only [Act.put, List.setIfInBounds_toArray, List.set_cons_zero, List.set_cons_succ]
      refine take_on (i := 10) (by (simp only [List.getElem?_toArray, List.getElem?_cons_succ, List.getElem?_cons_zero]) <;> rfl) (by kernel_rfl) (by kernel_rfl) (by kernel_rfl) (by intro _ _ _ _ h; exact h) (by rfl) (by assumption) ?_
      apply Exists.intro
      refine ⟨?_, ?_⟩
      · intro W0 hSw
        try dsimp only at hSw
        go_simp
        try (with_reducible rfl)
      try simp only [Act.put, List.setIfInBounds_toArray, List.set_cons_zero, List.set_cons_succ]
      refine take_on (i := 11) (by (simp only [List.getElem?_toArray, List.getElem?_cons_succ, List.getElem?_cons_zero]) <;> rfl) (by kernel_rfl) (by kernel_rfl) (by kernel_rfl) (by intro _ _ _ _ h; exact h) (by rfl) (by assumption) ?_
      apply Exists.intro
      refine ⟨?_, ?_⟩
      · intro W0 hSw
        try dsimp only at hSw
        go_simp
        try (with_reducible rfl)
      try simp only [Act.put, List.setIfInBounds_toArray, List.set_cons_zero, List.set_cons_succ]
      refine take_on (i := 12) (by (simp only [List.getElem?_toArray, List.getElem?_cons_succ, List.getElem?_cons_zero]) <;> rfl) (by kernel_rfl) (by kernel_rfl) (by kernel_rfl) (by intro _ _ _ _ h; exact h) (by rfl) (by assumption) ?_
      apply Exists.intro
      refine ⟨?_, ?_⟩
      · intro W0 hSw
        try dsimp only at hSw
        go_simp
        try (with_reducible rfl)
      try simp only [Act.put, List.setIfInBounds_toArray, List.set_cons_zero, List.set_cons_succ]
      refine take_on (i := 13) (by (simp only [List.getElem?_toArray, List.getElem?_cons_succ, List.getElem?_cons_zero]) <;> rfl) (by kernel_rfl) (by kernel_rfl) (by kernel_rfl) (by intro _ _ _ _ h; exact h) (by rfl) (by assumption) ?_
      apply Exists.intro
      refine ⟨?_, ?_⟩
      · intro W0 hSw
        try dsimp only at hSw
        go_simp
        try (with_reducible rfl)
      try simp only [Act.put, List.setIfInBounds_toArray, List.set_cons_zero, List.set_cons_succ]
      refine wpAnyH_done (by kernel_rfl) ?_ _
      have E6 := E5.drop 1
      simp at E6
      clear z0 z1 z2 hHeld hkeep hmx hmx2 hif
      cases rb with
      | false =>
        have HE := Lib.hid (ratE_bad HP.out hx.out HO.out)
        go_wp2
        go_ret2
        exact .no HE.out (by decide) E6.low
      | true =>
        have HN : Hid (os ++ [rv] = ratL l j (xs.take (q + 1)) at') := by unfold Hid; rw [ratL_snoc hx, ho.out, HV.out]
        have HA : Hid (∀ z ∈ xs.take (q + 1), ratOk l j at' z = true) := fun z hz => by
          rw [take_next hx] at hz
          rcases List.mem_append.1 hz with hz | hz
          · exact hall.out z hz
          · simp at hz; subst hz; exact HO.out
        clear ho hall
        go_wp2_with (at_builtin; refine wpList_eapp 0 rv Tryz.underlying35 info_int (by repeat (first | (with_reducible exact E6) | (with_reducible apply Env.drew) | (with_reducible apply Env.drewN) | (with_reducible apply Env.alloc'))) (by rfl) o q hm.out (by rfl) (by rfl) rfl 1 (by rfl) (by rfl) (heap_new_at (by simp)) (by rfl) (by omega) (by omega) ?_; intro C7 n7 w7 h7 o7 E7)
        simp only [List.set_cons_zero] at E7
        go_roundw
        case rel => exact ⟨q + 1, n7, C7, h7, os ++ [rv], by omega, by go_num, rfl, by unfold Hid; rw [List.length_append, hm.out]; rfl, HN, HA, o7, E7⟩
        case measure => simp [intOf]; omega
    · obtain rfl : q = xs.length := by omega
      rw [List.take_length] at ho hall
      have HE := Lib.hid (ratE_ok HP.out hall.out)
      have UM := E.made (h := h') (by simp)
      clear hall
      go_wp2
      go_ret2
      exact .inr ⟨HE.out, C, cap, h', by rw [← ho.out, hm.out]; rfl, by rw [← ho.out]; exact o, UM⟩
theorem measNext_calls (b : Nat) (l : List SRate) (j : ByteArray) (at' : Int) (h : Hp) (w : World) (hs : h.sub w) (p : PtT h b l) :
    Calls Tryz.prog 104 #[.pointer (some ⟨b, 0, none⟩), .string j, .int .i64 at'] w fun e w' => e = .returned (.tuple #[.int .i64 (nextV l j at'), .int .i64 (nextE l j at')]) ∧ Below w.heap.size w w' := by
  have PC := fun W : World => perRight_calls at' W
  have YC := fun W : World => perYear_calls at' W
  have hyb := yearOf_bd at'
  cases hp : perOk at' with
  | false =>
    have HE : Hid (nextE l j at' = 1) := by unfold Hid nextE; rw [if_pos hp]
    have HV : Hid (nextV l j at' = 0) := by unfold Hid nextV; rw [if_neg (by rw [HE.out]; decide)]
    rw [hp] at PC
    clear hp YC
    go_enter Tryz.func104, Tryz.ntmps104
    go_wp2_with fail
    refine (PC _).mono ?_
    rintro e w' ⟨rfl, rfl⟩
    go_wp2
    go_ret2
    exact ⟨by rw [HE.out, HV.out]; rfl, Below.refl _ _⟩
  | true =>
  have HE : Hid (nextE l j at' = if rateB l j (nextY at') at' = true then 0 else 7) := by unfold Hid nextE; rw [if_neg (by rw [hp]; decide)]
  have HV : Hid (nextV l j at' = if nextE l j at' = 0 then rateV l j (nextY at') at' else 0) := rfl
  rw [hp] at PC
  clear hp
  obtain ⟨mx, hmx⟩ : ∃ mx, min (yearOf at' + 1) 99 = mx := ⟨_, rfl⟩
  have hny : nextY at' = mx := hmx
  rw [hny] at HE HV
  have hif : (if yearOf at' + 1 ≤ 99 then yearOf at' + 1 else 99) = mx := by omega
  have RC := enactRate_calls b l j mx at' h w hs p
  clear hny
  generalize yearOf at' = yr at *
  generalize hrb : rateB l j mx at' = rb at *
  generalize hrv : rateV l j mx at' = rv at *
  clear hrb hrv
  cases rb with
  | false =>
    have HE1 : Hid (nextE l j at' = 7) := by unfold Hid; rw [HE.out]; rfl
    have HV1 : Hid (nextV l j at' = 0) := by unfold Hid; rw [HV.out, if_neg (by rw [HE1.out]; decide)]
    clear HE HV
    go_enter Tryz.func104, Tryz.ntmps104
    go_wp2_with fail
    refine (PC _).mono ?_
    rintro e w' ⟨rfl, rfl⟩
    go_wp2_with fail
    refine (YC _).mono ?_
    rintro e w' ⟨rfl, rfl⟩
    go_wp2_with fail
    refine RC.mono ?_
    rintro e w5 ⟨rfl, B5⟩
    go_wp2
    go_ret2
    exact ⟨by rw [HE1.out, HV1.out]; rfl, B5⟩
  | true =>
    have HE1 : Hid (nextE l j at' = 0) := by unfold Hid; rw [HE.out]; rfl
    have HV1 : Hid (nextV l j at' = rv) := by unfold Hid; rw [HV.out, if_pos HE1.out]
    clear HE HV
    go_enter Tryz.func104, Tryz.ntmps104
    go_wp2_with fail
    refine (PC _).mono ?_
    rintro e w' ⟨rfl, rfl⟩
    go_wp2_with fail
    refine (YC _).mono ?_
    rintro e w' ⟨rfl, rfl⟩
    go_wp2_with fail
    refine RC.mono ?_
    rintro e w5 ⟨rfl, B5⟩
    go_wp2
    go_ret2
    exact ⟨by rw [HE1.out, HV1.out]; rfl, B5⟩
theorem measLoss_calls (n r : Int) (w : World) : Calls Tryz.prog 117 #[.int .i64 n, .int .i64 r] w fun e w' => e = .returned (.tuple #[.int .i64 (shareV n r), .int .i64 (shareE n r)]) ∧ w = w' := by
  have MC := fun W : World => money_calls n W
  have RC := fun W : World => rateRight_calls r W
  have OC := fun W : World => of_calls n r W
  have HE : Hid (shareE n r = if (decide (0 ≤ n) && (money n && rightRate r)) = true then 0 else 1) := rfl
  have HV : Hid (shareV n r = if shareE n r = 0 then ofVal n r else 0) := rfl
  have hob := ofVal_bd n r
  generalize ofVal n r = ov at *
  generalize ofOk n r = ob at *
  by_cases hn : n < 0
  · have HE1 : Hid (shareE n r = 1) := by unfold Hid; rw [HE.out, if_neg (by simp; omega)]
    have HV1 : Hid (shareV n r = 0) := by unfold Hid; rw [HV.out, if_neg (by rw [HE1.out]; decide)]
    clear MC RC OC HE HV
    go_enter Tryz.func117, Tryz.ntmps117
    go_wp2
    go_ret2
    exact ⟨by rw [HE1.out, HV1.out]; rfl, rfl⟩
  cases hm : money n with
  | false =>
    have HE1 : Hid (shareE n r = 1) := by unfold Hid; rw [HE.out, hm, if_neg (by simp)]
    have HV1 : Hid (shareV n r = 0) := by unfold Hid; rw [HV.out, if_neg (by rw [HE1.out]; decide)]
    rw [hm] at MC
    clear RC OC HE HV hm
    go_enter Tryz.func117, Tryz.ntmps117
    go_wp2_with fail
    refine (MC _).mono ?_
    rintro e w' ⟨rfl, rfl⟩
    go_wp2
    go_ret2
    exact ⟨by rw [HE1.out, HV1.out]; rfl, rfl⟩
  | true =>
  cases hr : rightRate r with
  | false =>
    have HE1 : Hid (shareE n r = 1) := by unfold Hid; rw [HE.out, hr, if_neg (by simp)]
    have HV1 : Hid (shareV n r = 0) := by unfold Hid; rw [HV.out, if_neg (by rw [HE1.out]; decide)]
    rw [hm] at MC
    rw [hr] at RC
    clear OC HE HV hm hr
    go_enter Tryz.func117, Tryz.ntmps117
    go_wp2_with fail
    refine (MC _).mono ?_
    rintro e w' ⟨rfl, rfl⟩
    go_wp2_with fail
    refine (RC _).mono ?_
    rintro e w' ⟨rfl, rfl⟩
    go_wp2
    go_ret2
    exact ⟨by rw [HE1.out, HV1.out]; rfl, rfl⟩
  | true =>
    have HE1 : Hid (shareE n r = 0) := by unfold Hid; rw [HE.out, hm, hr, if_pos (by simp; omega)]
    have HV1 : Hid (shareV n r = ov) := by unfold Hid; rw [HV.out, if_pos HE1.out]
    rw [hm] at MC
    rw [hr] at RC
    clear HE HV hm hr
    go_enter Tryz.func117, Tryz.ntmps117
    go_wp2_with fail
    refine (MC _).mono ?_
    rintro e w' ⟨rfl, rfl⟩
    go_wp2_with fail
    refine (RC _).mono ?_
    rintro e w' ⟨rfl, rfl⟩
    go_wp2_with fail
    refine (OC _).mono ?_
    rintro e w' ⟨rfl, rfl⟩
    go_wp2
    go_ret2
    exact ⟨by rw [HE1.out, HV1.out]; rfl, rfl⟩
theorem allowOf_calls (n r : Int) (w : World) : Calls Tryz.prog 118 #[.int .i64 n, .int .i64 r] w fun e w' => e = .returned (.tuple #[.int .i64 (-shareV n r), .int .i64 (shareE n r)]) ∧ w = w' := by
  have MC := fun W : World => money_calls n W
  have RC := fun W : World => rateRight_calls r W
  have OC := fun W : World => of_calls n r W
  have HE : Hid (shareE n r = if (decide (0 ≤ n) && (money n && rightRate r)) = true then 0 else 1) := rfl
  have HV : Hid (shareV n r = if shareE n r = 0 then ofVal n r else 0) := rfl
  have hob := ofVal_bd n r
  generalize ofVal n r = ov at *
  generalize ofOk n r = ob at *
  by_cases hn : n < 0
  · have HE1 : Hid (shareE n r = 1) := by unfold Hid; rw [HE.out, if_neg (by simp; omega)]
    have HV1 : Hid (shareV n r = 0) := by unfold Hid; rw [HV.out, if_neg (by rw [HE1.out]; decide)]
    clear MC RC OC HE HV
    go_enter Tryz.func118, Tryz.ntmps118
    go_wp2
    go_ret2
    exact ⟨by rw [HE1.out, HV1.out]; rfl, rfl⟩
  cases hm : money n with
  | false =>
    have HE1 : Hid (shareE n r = 1) := by unfold Hid; rw [HE.out, hm, if_neg (by simp)]
    have HV1 : Hid (shareV n r = 0) := by unfold Hid; rw [HV.out, if_neg (by rw [HE1.out]; decide)]
    rw [hm] at MC
    clear RC OC HE HV hm
    go_enter Tryz.func118, Tryz.ntmps118
    go_wp2_with fail
    refine (MC _).mono ?_
    rintro e w' ⟨rfl, rfl⟩
    go_wp2
    go_ret2
    exact ⟨by rw [HE1.out, HV1.out]; rfl, rfl⟩
  | true =>
  cases hr : rightRate r with
  | false =>
    have HE1 : Hid (shareE n r = 1) := by unfold Hid; rw [HE.out, hr, if_neg (by simp)]
    have HV1 : Hid (shareV n r = 0) := by unfold Hid; rw [HV.out, if_neg (by rw [HE1.out]; decide)]
    rw [hm] at MC
    rw [hr] at RC
    clear OC HE HV hm hr
    go_enter Tryz.func118, Tryz.ntmps118
    go_wp2_with fail
    refine (MC _).mono ?_
    rintro e w' ⟨rfl, rfl⟩
    go_wp2_with fail
    refine (RC _).mono ?_
    rintro e w' ⟨rfl, rfl⟩
    go_wp2
    go_ret2
    exact ⟨by rw [HE1.out, HV1.out]; rfl, rfl⟩
  | true =>
    have HE1 : Hid (shareE n r = 0) := by unfold Hid; rw [HE.out, hm, hr, if_pos (by simp; omega)]
    have HV1 : Hid (shareV n r = ov) := by unfold Hid; rw [HV.out, if_pos HE1.out]
    rw [hm] at MC
    rw [hr] at RC
    clear HE HV hm hr
    go_enter Tryz.func118, Tryz.ntmps118
    go_wp2_with fail
    refine (MC _).mono ?_
    rintro e w' ⟨rfl, rfl⟩
    go_wp2_with fail
    refine (RC _).mono ?_
    rintro e w' ⟨rfl, rfl⟩
    go_wp2_with fail
    refine (OC _).mono ?_
    rintro e w' ⟨rfl, rfl⟩
    go_wp2
    go_ret2
    exact ⟨by rw [HE1.out, HV1.out]; rfl, rfl⟩
theorem allowChange_calls (a b : Int) (w : World) (ha : -1000000000000 ≤ a ∧ a ≤ 1000000000000) (hb : -1000000000000 ≤ b ∧ b ≤ 1000000000000) : Calls Tryz.prog 122 #[.int .i64 a, .int .i64 b] w fun e w' => e = .returned (.int .i64 (a - b)) ∧ w = w' := by
  go_enter Tryz.func122, Tryz.ntmps122
  go_wp2
  go_ret
  exact ⟨rfl, rfl⟩
end Go.Proofs.YtnfedcaehkcffaaGreat
end
section
/- The walk of ref09.Share. -/
namespace Go.Proofs.YtnfedcaehkcffaaGreat
open Go.RowKit Go.Sl
set_option maxHeartbeats 2000000
set_option maxRecDepth 100000
theorem refShare_calls (n r : Int) (w : World) : Calls Tryz.prog 93 #[.int .i64 n, .int .i64 r] w fun e w' => e = .returned (.tuple #[.int .i64 (shareV n r), .int .i64 (shareE n r)]) ∧ w = w' := by
  have RC := fun W : World => refRight_calls r W
  have OC := fun W : World => refPart_calls n r W
  have HE : Hid (shareE n r = if (decide (0 ≤ n) && (money n && rightRate r)) = true then 0 else 1) := rfl
  have HV : Hid (shareV n r = if shareE n r = 0 then ofVal n r else 0) := rfl
  generalize ofVal n r = ov at *
  by_cases hn : n < 0
  · have HE1 : Hid (shareE n r = 1) := by unfold Hid; rw [HE.out, if_neg (by simp; omega)]
    have HV1 : Hid (shareV n r = 0) := by unfold Hid; rw [HV.out, if_neg (by rw [HE1.out]; decide)]
    clear RC OC HE HV
    go_enter Tryz.func93, Tryz.ntmps93
    go_wp2
    go_ret2
    exact ⟨by rw [HE1.out, HV1.out]; rfl, rfl⟩
  by_cases hm : 100000000000 < n
  · have HE1 : Hid (shareE n r = 1) := by unfold Hid; rw [HE.out, if_neg (by simp [money]; omega)]
    have HV1 : Hid (shareV n r = 0) := by unfold Hid; rw [HV.out, if_neg (by rw [HE1.out]; decide)]
    clear RC OC HE HV
    go_enter Tryz.func93, Tryz.ntmps93
    go_wp2
    go_ret2
    exact ⟨by rw [HE1.out, HV1.out]; rfl, rfl⟩
  cases hr : rightRate r with
  | false =>
    have HE1 : Hid (shareE n r = 1) := by unfold Hid; rw [HE.out, hr, if_neg (by simp)]
    have HV1 : Hid (shareV n r = 0) := by unfold Hid; rw [HV.out, if_neg (by rw [HE1.out]; decide)]
    rw [hr] at RC
    clear OC HE HV hr
    go_enter Tryz.func93, Tryz.ntmps93
    go_wp2_with fail
    refine (RC _).mono ?_
    rintro e w' ⟨rfl, rfl⟩
    go_wp2
    go_ret2
    exact ⟨by rw [HE1.out, HV1.out]; rfl, rfl⟩
  | true =>
    have HE1 : Hid (shareE n r = 0) := by unfold Hid; rw [HE.out, hr, if_pos (by simp [money]; omega)]
    have HV1 : Hid (shareV n r = ov) := by unfold Hid; rw [HV.out, if_pos HE1.out]
    rw [hr] at RC
    clear HE HV hr
    go_enter Tryz.func93, Tryz.ntmps93
    go_wp2_with fail
    refine (RC _).mono ?_
    rintro e w' ⟨rfl, rfl⟩
    go_wp2_with fail
    refine (OC _).mono ?_
    rintro e w' ⟨rfl, rfl⟩
    go_wp2
    go_ret2
    exact ⟨by rw [HE1.out, HV1.out]; rfl, rfl⟩
end Go.Proofs.YtnfedcaehkcffaaGreat
end
section
/- The walks of ref09.Rates, NextRate, Share. -/
namespace Go.Proofs.YtnfedcaehkcffaaGreat
open Go.RowKit Go.Sl
set_option maxHeartbeats 2000000
set_option maxRecDepth 100000
set_option linter.unusedSimpArgs false
theorem refRates_calls (b : Nat) (l : List SRate) (j : ByteArray) (A : Option Addr) (ca : Nat) (xs : List STri) (at' : Int) (h k : Hp) (w : World) (hs : h.sub w) (p : PtRT h b l) (ks : k.sub w) (sx : Sl kTri k A ca xs) (hl : xs.length ≤ 1000000) :
    Calls Tryz.prog 88 #[.pointer (some ⟨b, 0, none⟩), .string j, .slice A xs.length ca, .int .i64 at'] w (RatAns (ratE l j xs at') (ratL l j xs at') w) := by
  have m1 := sx.small
  have PC := fun W : World => refPer_calls at' W
  have E0 := (Env.start w).new (Upd.of_below (Below.refl w.heap.size w))
  simp at E0
  cases hp : perOk at' with
  | false =>
    have HE : Hid (ratE l j xs at' = 1) := by unfold Hid ratE; rw [if_pos hp]
    rw [hp] at PC
    clear hp
    go_enter Tryz.func88, Tryz.ntmps88
    go_wp2_with fail
    refine (PC _).mono ?_
    rintro e w' ⟨rfl, rfl⟩
    go_wp2
    go_ret2
    exact .no HE.out (by decide) (Below.refl _ _)
  | true =>
  have HP := Lib.hid hp
  have hpb : 0 ≤ at' ∧ at' ≤ 399 := by simpa [perOk] using hp
  have hy4 : yearOf at' = at' / 4 := by unfold yearOf; rw [if_pos hp]
  rw [hp] at PC
  clear hp
  go_enter Tryz.func88, Tryz.ntmps88
  go_wp2_with fail
  refine (PC _).mono ?_
  rintro e w' ⟨rfl, rfl⟩
  go_wp2
  clear PC
  have HY4 := Lib.hid hy4
  clear hy4
  go_loopw [10, 20] (fun v i wr => ∃ (q cap : Nat) (C : Option Addr) (h' : Hp) (os : List Int), q ≤ xs.length ∧ i = .int .i64 q ∧ v = .slice C q cap ∧ Hid (os.length = q) ∧ Hid (os = ratL l j (xs.take q) at') ∧ Hid (∀ z ∈ xs.take q, ratOk l j at' z = true) ∧ Ow kInt h' C cap os ∧ Env w wr [h']) (fun _ i _ => xs.length - (intOf i).toNat)
  case atStart => exact ⟨0, 0, none, Hp.none, [], by omega, rfl, rfl, rfl, rfl, by unfold Hid; simp, Ow.none _ _, E0⟩
  case round =>
    clear E0
    obtain ⟨q, cap, C, h', os, hq, rfl, rfl, hm, ho, hall, o, E⟩ := hrel
    by_cases hlt : q < xs.length
    · obtain ⟨x, hx⟩ := some_of_lt hlt
      obtain ⟨bx, ox, rfl, c1, c2, c3⟩ := sx.tri (ks.of_below E.low) hx
      have i1 : (0 : Int) ≤ (q : Int) := by omega
      have i2 : (q : Int) < (xs.length : Int) := by omega
      obtain ⟨mx, hmx⟩ : ∃ mx, max x.b (yearOf at') = mx := ⟨_, rfl⟩
      have hmx2 : max (yearOf at') x.b = mx := by omega
      have hif : (if x.b ≤ yearOf at' then yearOf at' else x.b) = mx := by omega
      have HO : Hid (ratOk l j at' x = rateB l j mx at') := by unfold Hid ratOk; rw [hmx]
      have HV : Hid (ratOf l j at' x = rateV l j mx at') := by unfold Hid ratOf; rw [hmx]
      have RC := fun (W : World) (hW : Below w.heap.size w W) => refTabRate_calls b l j mx at' h W (hs.of_below hW) p
      rw [HY4.out] at hmx hmx2 hif
      generalize hrb : rateB l j mx at' = rb at *
      generalize hrv : rateV l j mx at' = rv at *
      clear hrb hrv
      go_upto_region 7 with fail
      replace E := E.alloc (.cells #[.int .i64 x.a, .int .i64 x.b, .int .i64 x.c] 97)
      simp at E
      obtain ⟨W, hW⟩ : ∃ W : World, W = wr.alloc (.cells #[.int .i64 x.a, .int .i64 x.b, .int .i64 x.c] 97) := ⟨_, rfl⟩
      rw [← hW] at E
      rw [← hW]
      clear hW
      have z0 := E.cell 1 rfl 0 rfl
      have z1 := E.cell 1 rfl 1 rfl
      have z2 := E.cell 1 rfl 2 rfl
      generalize wr.heap.size = bw at *
      clear c1 c2 c3
      go_wp2_with fail
      refine (RC _ E.low).mono ?_
      rintro e w5 ⟨rfl, B5⟩
      have E5 := E.below B5
      have E6 := E5.drop 1
      simp at E6
      clear z0 z1 z2 hmx hmx2 hif
      cases rb with
      | false =>
        have HE := Lib.hid (ratE_bad HP.out hx.out HO.out)
        go_wp2
        go_ret2
        exact .no HE.out (by decide) E6.low
      | true =>
        have HN : Hid (os ++ [rv] = ratL l j (xs.take (q + 1)) at') := by unfold Hid; rw [ratL_snoc hx, ho.out, HV.out]
        have HA : Hid (∀ z ∈ xs.take (q + 1), ratOk l j at' z = true) := fun z hz => by
          rw [take_next hx] at hz
          rcases List.mem_append.1 hz with hz | hz
          · exact hall.out z hz
          · simp at hz; subst hz; exact HO.out
        clear ho hall
        go_wp2_with (at_builtin; refine wpList_eapp 0 rv Tryz.underlying35 info_int (by repeat (first | (with_reducible exact E6) | (with_reducible apply Env.drew) | (with_reducible apply Env.drewN) | (with_reducible apply Env.alloc'))) (by rfl) o q hm.out (by rfl) (by rfl) rfl 1 (by rfl) (by rfl) (heap_new_at (by simp)) (by rfl) (by omega) (by omega) ?_; intro C7 n7 w7 h7 o7 E7)
        simp only [List.set_cons_zero] at E7
        go_roundw
        case rel => exact ⟨q + 1, n7, C7, h7, os ++ [rv], by omega, by go_num, rfl, by unfold Hid; rw [List.length_append, hm.out]; rfl, HN, HA, o7, E7⟩
        case measure => simp [intOf]; omega
    · obtain rfl : q = xs.length := by omega
      rw [List.take_length] at ho hall
      have HE := Lib.hid (ratE_ok HP.out hall.out)
      have UM := E.made (h := h') (by simp)
      clear hall
      go_wp2
      go_ret2
      exact .inr ⟨HE.out, C, cap, h', by rw [← ho.out, hm.out]; rfl, by rw [← ho.out]; exact o, UM⟩
theorem refNext_calls (b : Nat) (l : List SRate) (j : ByteArray) (at' : Int) (h : Hp) (w : World) (hs : h.sub w) (p : PtRT h b l) :
    Calls Tryz.prog 87 #[.pointer (some ⟨b, 0, none⟩), .string j, .int .i64 at'] w fun e w' => e = .returned (.tuple #[.int .i64 (nextV l j at'), .int .i64 (nextE l j at')]) ∧ Below w.heap.size w w' := by
  have PC := fun W : World => refPer_calls at' W
  cases hp : perOk at' with
  | false =>
    have HE : Hid (nextE l j at' = 1) := by unfold Hid nextE; rw [if_pos hp]
    have HV : Hid (nextV l j at' = 0) := by unfold Hid nextV; rw [if_neg (by rw [HE.out]; decide)]
    rw [hp] at PC
    clear hp
    go_enter Tryz.func87, Tryz.ntmps87
    go_wp2_with fail
    refine (PC _).mono ?_
    rintro e w' ⟨rfl, rfl⟩
    go_wp2
    go_ret2
    exact ⟨by rw [HE.out, HV.out]; rfl, Below.refl _ _⟩
  | true =>
  have HE : Hid (nextE l j at' = if rateB l j (nextY at') at' = true then 0 else 7) := by unfold Hid nextE; rw [if_neg (by rw [hp]; decide)]
  have HV : Hid (nextV l j at' = if nextE l j at' = 0 then rateV l j (nextY at') at' else 0) := rfl
  rw [hp] at PC
  have hpb : 0 ≤ at' ∧ at' ≤ 399 := by simpa [perOk] using hp
  have hy4 : yearOf at' = at' / 4 := by unfold yearOf; rw [if_pos hp]
  clear hp
  obtain ⟨mx, hmx⟩ : ∃ mx, min (yearOf at' + 1) 99 = mx := ⟨_, rfl⟩
  have hny : nextY at' = mx := hmx
  rw [hny] at HE HV
  have hif : (if yearOf at' + 1 ≤ 99 then yearOf at' + 1 else 99) = mx := by omega
  have RC := refTabRate_calls b l j mx at' h w hs p
  clear hny
  rw [hy4] at hmx hif
  clear hy4
  generalize hrb : rateB l j mx at' = rb at *
  generalize hrv : rateV l j mx at' = rv at *
  clear hrb hrv
  cases rb with
  | false =>
    have HE1 : Hid (nextE l j at' = 7) := by unfold Hid; rw [HE.out]; rfl
    have HV1 : Hid (nextV l j at' = 0) := by unfold Hid; rw [HV.out, if_neg (by rw [HE1.out]; decide)]
    clear HE HV
    go_enter Tryz.func87, Tryz.ntmps87
    go_wp2_with fail
    refine (PC _).mono ?_
    rintro e w' ⟨rfl, rfl⟩
    go_wp2_with fail
    refine RC.mono ?_
    rintro e w5 ⟨rfl, B5⟩
    go_wp2
    go_ret2
    exact ⟨by rw [HE1.out, HV1.out]; rfl, B5⟩
  | true =>
    have HE1 : Hid (nextE l j at' = 0) := by unfold Hid; rw [HE.out]; rfl
    have HV1 : Hid (nextV l j at' = rv) := by unfold Hid; rw [HV.out, if_pos HE1.out]
    clear HE HV
    go_enter Tryz.func87, Tryz.ntmps87
    go_wp2_with fail
    refine (PC _).mono ?_
    rintro e w' ⟨rfl, rfl⟩
    go_wp2_with fail
    refine RC.mono ?_
    rintro e w5 ⟨rfl, B5⟩
    go_wp2
    go_ret2
    exact ⟨by rw [HE1.out, HV1.out]; rfl, B5⟩
end Go.Proofs.YtnfedcaehkcffaaGreat
end
section
/- Parts of memory put together. No program is named here. -/
namespace Go.Sl
open Go Go.RowKit
theorem Own.append {w : World} : ∀ {l m : List Hp}, Own w l → Own w m → (∀ h ∈ l, ∀ k ∈ m, h.apart k) → Own w (l ++ m)
  | [], _, _, o, _ => o
  | h :: l, m, o, p, a => ⟨o.1, fun k hk => by
      rcases List.mem_append.1 hk with hk | hk
      · exact o.2.1 k hk
      · exact a h (by simp) k hk, o.2.2.append p fun x hx k hk => a x (by simp [hx]) k hk⟩
/-- What a call made since, beside what there was. -/
theorem Env.join {w0 w w1 : World} {l m : List Hp} (E : Env w0 w l) (F : Env w w1 m) : Env w0 w1 (l ++ m) :=
  ⟨(E.own.below F.low).append F.own fun h hh k hk b hb => by
    cases e : k b with
    | none => rfl
    | some o =>
      have h1 := F.fr k hk b (by simp [e])
      have h2 := (E.own.mem h hh).lt hb
      omega, fun h hh q hq => by
    rcases List.mem_append.1 hh with hh | hh
    · exact E.fr h hh q hq
    · exact Nat.le_trans E.low.size (F.fr h hh q hq), E.low.trans (F.low.mono E.low.size)⟩
end Go.Sl
end
section
/- Tables in a body's own memory; law09.Of; play.Table. -/
namespace Go.Sl
open Go Go.RowKit
def ukS : ByteArray := ⟨#[117, 107]⟩
def deS : ByteArray := ⟨#[100, 101]⟩
theorem tdivBd2 {z k : Int} (hk : 0 < k) (hz : -9223372036854775808 ≤ z ∧ z ≤ 9223372036854775807) : -9223372036854775808 ≤ z.tdiv k ∧ z.tdiv k ≤ 9223372036854775807 := by
  have key : ∀ m : Int, 0 ≤ m → 0 ≤ m.tdiv k ∧ m.tdiv k ≤ m := fun m hm => by
    rw [Int.tdiv_eq_ediv_of_nonneg hm]
    exact ⟨Int.ediv_nonneg hm (by omega), Int.ediv_le_self _ hm⟩
  rcases Int.le_total 0 z with h | h
  · have := key z h; omega
  · have h2 := key (-z) (by omega)
    rw [Int.neg_tdiv] at h2; omega
/-- A table out of numbers. -/
def tabStep (l : List SRate) (i : Nat) (z : Int) : List SRate := tabAdd l (if i % 2 = 0 then ukS else deS) (within z 6) (rateOf (z.tdiv 6)) (within (z.tdiv 60) 12)
def tabGo : List SRate → Nat → List Int → List SRate
  | l, _, [] => l
  | l, i, z :: zs => tabGo (tabStep l i z) (i + 1) zs
def tabOf (zs : List Int) : List SRate := tabGo [] 0 (zs.take 10)
theorem tabGo_snoc : ∀ (zs : List Int) (l : List SRate) (i : Nat) (z : Int), tabGo l i (zs ++ [z]) = tabStep (tabGo l i zs) (i + zs.length) z
  | [], l, i, z => rfl
  | y :: zs, l, i, z => by
    simp only [List.cons_append, tabGo, List.length_cons]
    rw [tabGo_snoc zs, show i + 1 + zs.length = i + (zs.length + 1) by omega]
theorem GoodT.go : ∀ (zs : List Int) (l : List SRate) (i : Nat), GoodT l → GoodT (tabGo l i zs)
  | [], _, _, g => g
  | _ :: zs, _, _, g => GoodT.go zs _ _ (g.add _ _ _ _)
theorem tabOf_good (zs : List Int) : GoodT (tabOf zs) := GoodT.go _ _ _ .nil
theorem tabOf_step {zs : List Int} {i : Nat} {z : Int} (hz : Hid (zs[i]? = some z)) : tabGo [] 0 (zs.take (i + 1)) = tabStep (tabGo [] 0 (zs.take i)) i z := by
  have hlt := (List.getElem?_eq_some_iff.1 hz.out).1
  rw [take_next hz, tabGo_snoc]
  congr 1
  rw [List.length_take]; omega
end Go.Sl
namespace Go.Proofs.YtnfedcaehkcffaaGreat
open Go.RowKit Go.Sl
set_option maxHeartbeats 2000000
set_option maxRecDepth 100000
set_option linter.unusedSimpArgs false
structure Tab (h : Hp) (b : Nat) (l : List SRate) : Prop where
  pt : PtT h b l
  good : GoodT l
structure RTab (h : Hp) (b : Nat) (l : List SRate) : Prop where
  pt : PtRT h b l
  good : GoodT l
section
variable {w0 w : World} {L : List Hp} {h : Hp} {b : Nat} {l : List SRate}
theorem Tab.new (E : Env w0 w L) : Calls Tryz.prog 22 #[] w fun e w' => ∃ h b, e = .returned (.pointer (some ⟨b, 0, none⟩)) ∧ Tab h b [] ∧ Env w0 w' (L ++ [h]) :=
  (enactNew_calls w).mono fun _ _ ⟨h, b, he, hp, u⟩ => ⟨h, b, he, ⟨hp, .nil⟩, E.new u⟩
theorem Tab.add (S : Tab h b l) (E : Env w0 w L) (i : Nat) (hi : L[i]? = some h) (j : ByteArray) (y r at' : Int) {q : Int} {ys : List SRate} (hE : tabE l j y r at' = q ∧ tabAdd l j y r at' = ys) :
    Calls Tryz.prog 15 #[.pointer (some ⟨b, 0, none⟩), .string j, .int .i64 y, .int .i64 r, .int .i64 at'] w fun e w' => ∃ h', e = .returned (.int .i64 q) ∧ Tab h' b ys ∧ Env w0 w' (L.set i h') := by
  obtain ⟨h1, h2⟩ := hE
  subst h1 h2
  exact (enactAdd_calls b l j y r at' h w (E.sub i hi) S.pt S.good).mono fun _ _ ⟨h', he, hp, u⟩ => ⟨h', he, ⟨hp, S.good.add j y r at'⟩, E.upd i hi u⟩
theorem Tab.rate (S : Tab h b l) (E : Env w0 w L) (i : Nat) (hi : L[i]? = some h) (j : ByteArray) (y at' : Int) {v : Int} {q : Bool} (hE : rateV l j y at' = v ∧ rateB l j y at' = q) :
    Calls Tryz.prog 103 #[.pointer (some ⟨b, 0, none⟩), .string j, .int .i64 y, .int .i64 at'] w fun e w' => e = .returned (.tuple #[.int .i64 v, .bool q]) ∧ Env w0 w' L := by
  obtain ⟨h1, h2⟩ := hE
  subst h1 h2
  exact (enactRate_calls b l j y at' h w (E.sub i hi) S.pt).mono fun _ _ ⟨he, hb⟩ => ⟨he, E.below hb⟩
theorem RTab.add (S : RTab h b l) (E : Env w0 w L) (i : Nat) (hi : L[i]? = some h) (j : ByteArray) (y r at' : Int) {q : Int} {ys : List SRate} (hE : tabE l j y r at' = q ∧ tabAdd l j y r at' = ys) :
    Calls Tryz.prog 74 #[.pointer (some ⟨b, 0, none⟩), .string j, .int .i64 y, .int .i64 r, .int .i64 at'] w fun e w' => ∃ h', e = .returned (.int .i64 q) ∧ RTab h' b ys ∧ Env w0 w' (L.set i h') := by
  obtain ⟨h1, h2⟩ := hE
  subst h1 h2
  exact (refTabAdd_calls b l j y r at' h w (E.sub i hi) S.pt S.good).mono fun _ _ ⟨h', he, hp, u⟩ => ⟨h', he, ⟨hp, S.good.add j y r at'⟩, E.upd i hi u⟩
theorem RTab.rate (S : RTab h b l) (E : Env w0 w L) (i : Nat) (hi : L[i]? = some h) (j : ByteArray) (y at' : Int) {v : Int} {q : Bool} (hE : rateV l j y at' = v ∧ rateB l j y at' = q) :
    Calls Tryz.prog 86 #[.pointer (some ⟨b, 0, none⟩), .string j, .int .i64 y, .int .i64 at'] w fun e w' => e = .returned (.tuple #[.int .i64 v, .bool q]) ∧ Env w0 w' L := by
  obtain ⟨h1, h2⟩ := hE
  subst h1 h2
  exact (refTabRate_calls b l j y at' h w (E.sub i hi) S.pt).mono fun _ _ ⟨he, hb⟩ => ⟨he, E.below hb⟩
theorem RTab.box (b : Nat) : RTab (Hp.box b [.slice none 0 0] 140) b [] := ⟨⟨_, Hp.one_self _ _, none, 0, rfl, Ow.none _ _⟩, .nil⟩
end
theorem of09_calls (b0 : Nat) (h0 : Hp) (l : List SRate) (w : World) (hs : h0.sub w) (S0 : RTab h0 b0 l) :
    Calls Tryz.prog 31 #[.pointer (some ⟨b0, 0, none⟩)] w fun e w' => ∃ h b, e = .returned (.pointer (some ⟨b, 0, none⟩)) ∧ Tab h b l ∧ Env w w' [h] := by
  obtain ⟨A, ca, hc, sx⟩ := S0.pt.tab hs
  have g := S0.good
  have hlen := g.len
  have GN := fun i x (hx : l[i]? = some x) => g.next hx
  have GN := Lib.hid GN
  have E0 := Env.start w
  have m1 := sx.small
  go_enter Tryz.func31, Tryz.ntmps31
  go_wp2_with fail
  refine (Tab.new E0).mono ?_
  rintro e w1 ⟨h1, c, rfl, S1, E1⟩
  try simp at E1
  have hc1 := (E1.low.cell (World.block_lt_of_cell? w _ hc)).trans hc
  go_wp2_with fail
  clear hc1
  go_loopw [14] (fun i' wr => ∃ (i : Nat) (g1 : Hp), i ≤ l.length ∧ i' = .int .i64 i ∧ Tab g1 c (l.take i) ∧ Env w wr [g1]) (fun i _ => l.length - (intOf i).toNat)
  case atStart => exact ⟨0, h1, by omega, rfl, S1, E1⟩
  case round =>
    clear S1 E1
    obtain ⟨i, g1, hi, rfl, S, E⟩ := hrel
    by_cases hlt : i < l.length
    · obtain ⟨x, hx⟩ := some_of_lt hlt
      obtain ⟨b1, o1, rfl, c1, c2, c3, c4⟩ := sx.rate (hs.of_below E.low) hx
      have i1 : (0 : Int) ≤ (i : Int) := by omega
      have i2 : (i : Int) < (l.length : Int) := by omega
      have gn := GN.out i x hx.out
      have G1 := Lib.hid gn.1
      have G2 := Lib.hid gn.2
      clear gn
      go_upto_region 7 with fail
      replace E := E.alloc (.cells #[.string x.j, .int .i64 x.yr, .int .i64 x.rt, .int .i64 x.per] 142)
      simp at E
      obtain ⟨W, hW⟩ : ∃ W : World, W = wr.alloc (.cells #[.string x.j, .int .i64 x.yr, .int .i64 x.rt, .int .i64 x.per] 142) := ⟨_, rfl⟩
      rw [← hW] at E
      rw [← hW]
      clear hW
      have q0 := E.cell 1 rfl 0 rfl
      have q1 := E.cell 1 rfl 1 rfl
      have q2 := E.cell 1 rfl 2 rfl
      have q3 := E.cell 1 rfl 3 rfl
      clear c1 c2 c3 c4
      go_wp2_with fail
      refine (Tab.add S E 0 rfl _ _ _ _ ⟨G1.out, G2.out⟩).mono ?_
      rintro e w3 ⟨h3, rfl, S3, E3⟩
      have E4 := E3.drop 1
      simp at E4
      go_wp2
      go_roundw
      case rel => exact ⟨i + 1, h3, by omega, by go_num, S3, E4⟩
      case measure => simp [intOf]; omega
    · obtain rfl : i = l.length := by omega
      rw [List.take_length] at S
      go_wp2
      go_ret
      exact ⟨g1, c, rfl, S, E⟩
end Go.Proofs.YtnfedcaehkcffaaGreat
end
section
/- Whole structs and rows at an Env: load and store in one. -/
namespace Go.Sl
open Go Go.RowKit
section
variable {w0 w : World} {l : List Hp} {b : Nat} {cs : List Value} {T : TypeId}
theorem Env.range (E : Env w0 w l) (i : Nat) (hi : l[i]? = some (Hp.box b cs T)) : w.rangeAt b 0 cs := fun j v hv => by
  rw [Nat.zero_add]; exact E.cell i hi j hv
theorem Env.there (E : Env w0 w l) (i : Nat) (hi : l[i]? = some (Hp.box b cs T)) (n : Nat) (hn : cs.length = n) : w.there b 0 n := fun j hj => by
  rw [Nat.zero_add]
  have hj' : j < cs.length := by omega
  exact ⟨by rw [E.cell i hi j (List.getElem?_eq_getElem hj')]; rfl, E.free i hi j⟩
theorem Env.setFrom : ∀ (vs pre old : List Value) {w : World} {l : List Hp} (i : Nat), Env w0 w l → l[i]? = some (Hp.box b (pre ++ old) T) → vs.length = old.length →
    Env w0 (w.setCells b pre.length vs) (l.set i (Hp.box b (pre ++ vs) T))
  | [], pre, old, w, l, i, E, hi, hl => by
    obtain rfl : old = [] := List.length_eq_zero_iff.1 hl.symm
    have : l.set i (Hp.box b (pre ++ []) T) = l := by
      apply List.ext_getElem?
      intro j
      rw [List.getElem?_set]
      split
      · rename_i h; subst h
        split
        · exact hi.symm
        · rename_i h2; rw [List.getElem?_eq_none (by omega)]
      · rfl
    rw [this]; exact E
  | v :: vs, pre, o :: old, w, l, i, E, hi, hl => by
    have E2 := E.cellset i hi pre.length v
    have hs : (pre ++ o :: old).set pre.length v = (pre ++ [v]) ++ old := by simp
    rw [hs] at E2
    have hil : i < l.length := (List.getElem?_eq_some_iff.1 hi).1
    have E3 := Env.setFrom vs (pre ++ [v]) old i E2 (by rw [List.getElem?_set_self hil]) (by simpa using hl)
    rw [List.set_set, List.append_assoc, List.singleton_append, List.length_append, List.length_singleton] at E3
    exact E3
  | v :: vs, pre, [], w, l, i, E, hi, hl => by simp at hl
/-- A whole struct is stored over. -/
theorem Env.setAll (E : Env w0 w l) (i : Nat) (hi : l[i]? = some (Hp.box b cs T)) (vs : List Value) (hl : vs.length = cs.length) : Env w0 (w.setCells b 0 vs) (l.set i (Hp.box b vs T)) :=
  Env.setFrom vs [] cs i E (by simpa using hi) hl
end
end Go.Sl
end
section
/- The walk of play.seven. -/
namespace Go.Sl
open Go Go.RowKit
/-- Seven numbers of a list, 0 behind it. -/
def sevOf (zs : List Int) (k : Nat) : Int := zs.getD k 0
theorem sevOf_lt {zs : List Int} {j : Nat} {z : Int} (h : Hid (zs[j]? = some z)) : sevOf zs j = z := by unfold sevOf; rw [List.getD_eq_getElem?_getD, h.out]; rfl
theorem sevOf_ge {zs : List Int} {j : Nat} (h : zs.length ≤ j) : sevOf zs j = 0 := by unfold sevOf; rw [List.getD_eq_getElem?_getD, List.getElem?_eq_none h]; rfl
def sevU (zs : List Int) (j k : Nat) : Int := if k < j then sevOf zs k else 0
end Go.Sl
namespace Go.Proofs.YtnfedcaehkcffaaGreat
open Go.RowKit Go.Sl
set_option maxHeartbeats 600000
set_option maxRecDepth 100000
def SevAns (zs : List Int) (w : World) (e : Ending) (w' : World) : Prop :=
  e = .returned (.agg #[.int .i64 (sevOf zs 0), .int .i64 (sevOf zs 1), .int .i64 (sevOf zs 2), .int .i64 (sevOf zs 3), .int .i64 (sevOf zs 4), .int .i64 (sevOf zs 5), .int .i64 (sevOf zs 6)]) ∧ Below w.heap.size w w'
theorem seven_calls (A : Option Addr) (ca : Nat) (zs : List Int) (k : Hp) (w : World) (hs : k.sub w) (sx : Sl kInt k A ca zs) :
    Calls Tryz.prog 82 #[.slice A zs.length ca] w (SevAns zs w) := by
  have m1 := sx.small
  have E1 := ((Env.start w).alloc (.cells #[.int .i64 0, .int .i64 0, .int .i64 0, .int .i64 0, .int .i64 0, .int .i64 0, .int .i64 0] 144)).alloc (.cells #[.int .i64 0, .int .i64 0, .int .i64 0, .int .i64 0, .int .i64 0, .int .i64 0, .int .i64 0] 144)
  simp at E1
  go_enter Tryz.func82, Tryz.ntmps82
  go_wp2
  generalize hb2 : w.heap.size + 1 = b2 at *
  generalize hb1 : w.heap.size = b1 at *
  go_loopw [4] (fun i wr => ∃ (j : Nat) (x : Nat → Int), j ≤ zs.length ∧ j ≤ 7 ∧ i = .int .i64 j ∧ Hid (∀ k, k < 7 → x k = sevU zs j k) ∧ Env w wr [Hp.box b1 [.int .i64 0, .int .i64 0, .int .i64 0, .int .i64 0, .int .i64 0, .int .i64 0, .int .i64 0] 144, Hp.box b2 [.int .i64 (x 0), .int .i64 (x 1), .int .i64 (x 2), .int .i64 (x 3), .int .i64 (x 4), .int .i64 (x 5), .int .i64 (x 6)] 144]) (fun i _ => 7 - (intOf i).toNat)
  case atStart => exact ⟨0, fun _ => 0, by omega, by omega, rfl, fun k _ => by simp [sevU], E1⟩
  case round =>
    clear E1 hb1 hb2
    obtain ⟨j, x, hj, hj7, rfl, HX, E⟩ := hrel
    by_cases hlt : j < zs.length ∧ j < 7
    · obtain ⟨hlt, hlt7⟩ := hlt
      obtain ⟨z, hzz⟩ := some_of_lt hlt
      obtain ⟨b3, o3, rfl, c1⟩ := sx.int (hs.of_below E.low) hzz
      have i1 : (0 : Int) ≤ (j : Int) := by omega
      have i2 : (j : Int) < (zs.length : Int) := by omega
      have i3 : (j : Int) < 7 := by omega
      have HN : Hid (∀ k, k < 7 → (fun k => if k = j then z else x k) k = sevU zs (j + 1) k) := fun k hk => by
        by_cases h : k = j
        · subst h; simp [sevU, sevOf_lt hzz]
        · have := HX.out k hk
          simp only [h, if_false]; rw [this]; unfold sevU
          by_cases h2 : k < j
          · rw [if_pos h2, if_pos (by omega)]
          · rw [if_neg h2, if_neg (by omega)]
      have qf := fun k => E.free 1 rfl k
      have q := E.cellset 1 rfl j (.int .i64 z)
      have qj : wr.cell? ⟨b2, j, none⟩ = some (.int .i64 (x j)) := by
        rcases (show j = 0 ∨ j = 1 ∨ j = 2 ∨ j = 3 ∨ j = 4 ∨ j = 5 ∨ j = 6 by omega) with rfl | rfl | rfl | rfl | rfl | rfl | rfl
        · exact E.cell 1 rfl 0 rfl
        · exact E.cell 1 rfl 1 rfl
        · exact E.cell 1 rfl 2 rfl
        · exact E.cell 1 rfl 3 rfl
        · exact E.cell 1 rfl 4 rfl
        · exact E.cell 1 rfl 5 rfl
        · exact E.cell 1 rfl 6 rfl
      go_wp2
      go_roundw
      case rel =>
        refine ⟨j + 1, fun k => if k = j then z else x k, by omega, by omega, by go_num, HN, ?_⟩
        rcases (show j = 0 ∨ j = 1 ∨ j = 2 ∨ j = 3 ∨ j = 4 ∨ j = 5 ∨ j = 6 by omega) with rfl | rfl | rfl | rfl | rfl | rfl | rfl
        all_goals simpa using q
      case measure => simp [intOf]; omega
    · have HE : ∀ k, k < 7 → x k = sevOf zs k := fun k hk => by
        rw [HX.out k hk]; unfold sevU
        by_cases h : k < j
        · rw [if_pos h]
        · rw [if_neg h, sevOf_ge (by omega)]
      have e0 := HE 0 (by omega)
      have e1 := HE 1 (by omega)
      have e2 := HE 2 (by omega)
      have e3 := HE 3 (by omega)
      have e4 := HE 4 (by omega)
      have e5 := HE 5 (by omega)
      have e6 := HE 6 (by omega)
      rw [e0, e1, e2, e3, e4, e5, e6] at E
      clear HE HX e0 e1 e2 e3 e4 e5 e6
      have HS : Hid (∀ W' : World, ∀ e, e = .returned (.agg #[.int .i64 (sevOf zs 0), .int .i64 (sevOf zs 1), .int .i64 (sevOf zs 2), .int .i64 (sevOf zs 3), .int .i64 (sevOf zs 4), .int .i64 (sevOf zs 5), .int .i64 (sevOf zs 6)]) → Below w.heap.size w W' → SevAns zs w e W') := fun W' e h1 h2 => ⟨h1, h2⟩
      generalize sevOf zs 0 = y0 at *
      generalize sevOf zs 1 = y1 at *
      generalize sevOf zs 2 = y2 at *
      generalize sevOf zs 3 = y3 at *
      generalize sevOf zs 4 = y4 at *
      generalize sevOf zs 5 = y5 at *
      generalize sevOf zs 6 = y6 at *
      rcases (show zs.length ≤ j ∨ (j < zs.length ∧ 7 ≤ j) by omega) with g | ⟨g, g7⟩
      all_goals
        clear hlt
        go_wp2_with (first
          | (refine wpList_load_mid rfl 144 _ rfl b2 0 rfl _ _ (E.range 1 rfl) Tryz.underlying144 rfl (by kernel_rfl) ?_)
          | (refine wpList_store_mid rfl 144 _ _ rfl b1 0 _ rfl rfl (E.there 0 rfl _ rfl) (by kernel_rfl) (by simp [Value.oneCell']) ?_))
        have EN := E.setAll 0 rfl [.int .i64 y0, .int .i64 y1, .int .i64 y2, .int .i64 y3, .int .i64 y4, .int .i64 y5, .int .i64 y6] rfl
        simp only [List.set_cons_zero] at EN
        have d0 := EN.cell 0 rfl 0 rfl
        have d1 := EN.cell 0 rfl 1 rfl
        have d2 := EN.cell 0 rfl 2 rfl
        have d3 := EN.cell 0 rfl 3 rfl
        have d4 := EN.cell 0 rfl 4 rfl
        have d5 := EN.cell 0 rfl 5 rfl
        have d6 := EN.cell 0 rfl 6 rfl
        generalize wr.setCells b1 0 _ = W at *
        refine bodyPost_ret (v := .agg #[.int .i64 y0, .int .i64 y1, .int .i64 y2, .int .i64 y3, .int .i64 y4, .int .i64 y5, .int .i64 y6]) ?_ rfl (HS.out _ _ rfl EN.low)
        simp [results, Tryz.results82, go_sem, d0, d1, d2, d3, d4, d5, d6]
end Go.Proofs.YtnfedcaehkcffaaGreat
end
