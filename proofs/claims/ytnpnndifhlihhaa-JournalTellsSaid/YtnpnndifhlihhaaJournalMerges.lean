/- The walk of the law JournalMerges. -/
import Derived.Test.YtnpnndifhlihhaaJournalJoins
import Derived.Test.YtnpnndifhlihhaaFull
import Derived.Deep.RegionHeld3
namespace Go.Sl
open Go Go.RowKit
theorem accSum_reverse (a : Int) : ∀ xs : List SItem, accSum a xs.reverse = accSum a xs
  | [] => rfl
  | x :: xs => by rw [List.reverse_cons, accSum_snoc, accSum_reverse a xs]; simp only [accSum]; omega
theorem wrap64_id {n : Int} (h1 : -9223372036854775808 ≤ n) (h2 : n ≤ 9223372036854775807) : wrap64 n = n := by simp only [wrap64]; omega
theorem accSum_turned (a : Int) : ∀ xs : List SItem, (∀ x ∈ xs, -100000000 ≤ x.amt ∧ x.amt ≤ 100000000) → accSum a (reverseL xs) = -accSum a xs
  | [], _ => rfl
  | x :: xs, h => by
    have ih := accSum_turned a xs (fun y hy => h y (by simp [hy]))
    have hx := h x (by simp)
    unfold reverseL at *
    simp only [List.map_cons, accSum, ih, wrap64_id (n := -x.amt) (by omega) (by omega)]
    split <;> omega
theorem Fine.turned {xs : List SItem} (f : Fine xs) : ∀ x ∈ reverseL xs, ∃ y ∈ xs, x = ⟨y.kind, -y.amt⟩ := fun x hx => by
  obtain ⟨y, hy, rfl⟩ := List.mem_map.1 hx
  have := f.small y hy
  exact ⟨y, hy, by rw [wrap64_id (by omega) (by omega)]⟩
theorem reverseL_len (xs : List SItem) : (reverseL xs).length = xs.length := by simp [reverseL]
theorem Fine.turn_turn {xs : List SItem} (f : Fine xs) : reverseL (reverseL xs) = xs := by
  unfold reverseL
  rw [List.map_map]
  conv => rhs; rw [← List.map_id xs]
  refine List.map_congr_left fun x hx => ?_
  have := f.small x hx
  simp only [Function.comp, id]
  rw [wrap64_id (n := -x.amt) (by omega) (by omega), wrap64_id (by omega) (by omega), Int.neg_neg]
theorem mergeTo_turned {z : List SItem} (h : ∀ a, -9223372036854775807 ≤ accSum a z ∧ accSum a z ≤ 9223372036854775807) {y : List SItem} (hy : ∀ a, accSum a y = -accSum a z) : ∀ n, mergeTo y n = reverseL (mergeTo z n)
  | 0 => rfl
  | n + 1 => by
    have ih := mergeTo_turned h hy n
    have h1 := h (n + 1)
    by_cases h0 : accSum (n + 1) z = 0
    · rw [mergeTo_no h0, mergeTo_no (by rw [hy, h0]; rfl), ih]
    · rw [mergeTo_yes h0, mergeTo_yes (by rw [hy]; omega), ih]
      simp only [reverseL, List.map_append, List.map_cons, List.map_nil, hy, wrap64_id (n := -accSum ((n : Int) + 1) z) (by omega) (by omega)]
theorem sumAmt_turned : ∀ xs : List SItem, (∀ x ∈ xs, -100000000 ≤ x.amt ∧ x.amt ≤ 100000000) → sumAmt (reverseL xs) = -sumAmt xs
  | [], _ => rfl
  | x :: xs, h => by
    have ih := sumAmt_turned xs (fun y hy => h y (by simp [hy]))
    have hx := h x (by simp)
    unfold reverseL sumAmt at *
    simp only [List.map_cons, List.sum_cons, ih, wrap64_id (n := -x.amt) (by omega) (by omega)]
    omega
theorem Fine.turn {xs : List SItem} (f : Fine xs) : Fine (reverseL xs) := by
  refine ⟨?_, fun x hx => ?_, by rw [reverseL_len]; exact f.len, fun x hx => ?_, fun x hx => ?_, by rw [sumAmt_turned xs f.small, f.zero]; rfl⟩
  · have := mergeTo_turned (z := xs) (fun a => by have := f.acc a; omega) (y := reverseL xs) (fun a => accSum_turned a xs f.small) 7
    have e : mergeTo xs 7 = xs := f.merged
    rw [e] at this
    exact this
  · obtain ⟨y, hy, rfl⟩ := f.turned x hx; exact f.kinds y hy
  · obtain ⟨y, hy, rfl⟩ := f.turned x hx; have := f.small y hy; simp only; omega
  · obtain ⟨y, hy, rfl⟩ := f.turned x hx; have := f.none y hy; simp only; omega
theorem Fine.gone {xs : List SItem} (f : Fine xs) : mergeF (xs ++ reverseL xs) = [] := by
  unfold mergeF
  rw [if_pos (f.join_few f.turn)]
  exact merge_nil fun k _ _ => by rw [accSum_append, accSum_turned k xs f.small]; omega
theorem Fine.back {xs : List SItem} (f : Fine xs) : mergeF xs.reverse = xs := by
  unfold mergeF
  rw [if_pos (few_of (by have := f.len; simp; omega) (fun x hx => f.money x (by simpa using hx))), merge_congr (z := xs) (fun k _ _ => accSum_reverse k xs)]
  exact f.merged
theorem Fine.even {xs : List SItem} (f : Fine xs) : debs xs = cres xs := by have := sides_sum xs f.money; rw [f.zero] at this; omega
theorem Fine.mine {xs : List SItem} (f : Fine xs) {x : SItem} (hx : x ∈ xs) : netF xs x.kind = x.amt := by
  unfold netF
  rw [if_pos f.few]
  have h := hx
  rw [← f.merged] at h
  exact (mergeTo_mem h).2.2.1.symm
theorem sumAmt_append (xs ys : List SItem) : sumAmt (xs ++ ys) = sumAmt xs + sumAmt ys := by simp [sumAmt]
theorem sumAmt_cons (x : SItem) (xs : List SItem) : sumAmt (x :: xs) = x.amt + sumAmt xs := by simp [sumAmt]
theorem Fine.less {xs : List SItem} (f : Fine xs) {k : Nat} (hk : k < xs.length) : checkE (xs.take k ++ xs.drop (k + 1)) = 2 := by
  have hm : ∀ x ∈ xs.take k ++ xs.drop (k + 1), Sl.money x.amt = true := fun x hx => by
    rcases List.mem_append.1 hx with hx | hx
    · exact f.money x (List.mem_of_mem_take hx)
    · exact f.money x (List.mem_of_mem_drop hx)
  have hs := sides_sum _ hm
  have h1 : sumAmt xs = sumAmt (xs.take k ++ xs.drop (k + 1)) + xs[k].amt := by
    have e : xs = xs.take k ++ xs[k] :: xs.drop (k + 1) := by rw [← List.drop_eq_getElem_cons hk, List.take_append_drop]
    have e2 := congrArg sumAmt e
    rw [sumAmt_append, sumAmt_cons] at e2
    rw [sumAmt_append]; omega
  rw [f.zero] at h1
  have h2 := f.none xs[k] (List.getElem_mem hk)
  have : checkB (xs.take k ++ xs.drop (k + 1)) = false := by
    simp only [checkB]
    rw [Bool.and_eq_false_iff]
    right
    rw [decide_eq_false_iff_not]; omega
  unfold checkE
  rw [this]; rfl
end Go.Sl
namespace Go.Proofs.Ytnpnndifhlihhaa
open Go.RowKit Go.Sl
set_option maxHeartbeats 400000
set_option maxRecDepth 100000
set_option maxHeartbeats 2000000 in
theorem journalMerges_calls (A B : Option Addr) (ca cb : Nat) (ks zs : List Int) (at_ : Int) (hA hB : Hp) (w : World) (sA : hA.sub w) (sB : hB.sub w) (s1 : Sl kInt hA A ca ks) (s2 : Sl kInt hB B cb zs)
    (w2 : ∀ n ∈ zs, I64 n) :
    Calls Try.prog 6 #[.slice A ks.length ca, .slice B zs.length cb, .int .i64 at_] w fun e w' => e = .returned (.bool true) ∧ Below w.heap.size w w' := by
  obtain ⟨i0, hi, hz0, hz1, hz2⟩ := info_parts Try.infoLine
  have R1 := playRight_calls A B ca cb ks zs hA hB w sA sB s1 s2 w2
  have fl := right_fine ks zs
  generalize rightL ks zs = L at *
  have ll := fl.len
  have hm0 : Hid (mergeF L = L) := by unfold Hid mergeF; rw [if_pos fl.few, fl.merged]
  have hck : Hid (checkE L = 0) := by unfold Hid checkE; rw [if_pos fl.check]
  have hck2 : Hid (checkE (reverseL L) = 0) := by unfold Hid checkE; rw [if_pos fl.turn.check]
  have hrl : Hid ((reverseL L).length = L.length) := reverseL_len L
  have hrr : Hid (reverseL (reverseL L) = L) := fl.turn_turn
  have hgone : Hid (mergeF (L ++ reverseL L) = []) := fl.gone
  have hback : Hid (mergeF L.reverse = L) := fl.back
  have hmine : Hid (∀ x ∈ L, netF L x.kind = x.amt) := fun x hx => fl.mine hx
  have heven : Hid (debs L = cres L) := fl.even
  have hless : Hid (∀ k, k < L.length → checkE (L.take k ++ L.drop (k + 1)) = 2) := fun k hk => fl.less hk
  have hsm := Lib.hid fl.small
  have d1 := debs_le L
  have d2 := cres_le L
  clear fl
  go_enter Try.func6, Try.ntmps6
  go_wp2_with fail
  refine R1.mono ?_
  rintro e v1 ⟨C1, c1, h1, rfl, o1, u1⟩
  have K := fun W (hW : Below v1.heap.size v1 W) => check_calls C1 c1 L h1 W (u1.sub.of_below hW) o1.sl
  rw [hck.out] at K
  go_wp2_with fail
  refine (K v1 (Below.refl _ _)).mono ?_
  rintro e v2 ⟨rfl, b2⟩
  have M := fun W (hW : Below v1.heap.size v1 W) => mergeF_calls C1 c1 L h1 W (u1.sub.of_below hW) o1.sl
  rw [hm0.out] at M
  go_wp2_with fail
  refine (M v2 b2).mono ?_
  rintro e v3 ⟨C3, c3, h3, rfl, o3, u3⟩
  have b13 : Below v1.heap.size v1 v3 := b2.trans (u3.below.mono b2.size)
  have S := same_line C3 C1 c3 c1 L L h3 h1 v3 u3.sub (u1.sub.of_below b13) o3.sl o1.sl
  rw [eqB_t rfl] at S
  go_wp2_with fail
  refine S.mono ?_
  rintro e v4 ⟨rfl, b4⟩
  have b14 : Below v1.heap.size v1 v4 := b13.trans (b4.mono b13.size)
  clear M S u3 o3
  go_wp2
  go_loopw [8, 29, 9] (fun v i _ wr => ∃ (j cap : Nat) (C : Option Addr) (h' : Hp), j ≤ L.length ∧ i = .int .i64 j ∧ v = .slice C j cap ∧ Hid (Ow kItem h' C cap (L.reverse.take j)) ∧ Upd Hp.none h' v4 wr) (fun _ i _ _ => L.length - (intOf i).toNat)
  case atStart => exact ⟨0, 0, none, Hp.none, by omega, rfl, rfl, Ow.none _ _, Upd.of_below (Below.refl _ _)⟩
  case round =>
    obtain ⟨j, cap, C, h', hj, rfl, rfl, ho, hu⟩ := hrel
    have HL : Hid ((L.reverse.take j).length = j) := by unfold Hid; simp; omega
    by_cases hlt : j < L.length
    · obtain ⟨m, hm⟩ : ∃ m, L.length = m + 1 + j := ⟨L.length - 1 - j, by omega⟩
      obtain ⟨x, hx⟩ := some_of_lt (xs := L) (i := m) (by omega)
      have HT : Hid (L.reverse.take (j + 1) = L.reverse.take j ++ [x]) := by
        unfold Hid
        rw [take_next (xs := L.reverse) (i := j) (x := x)]
        unfold Hid
        rw [List.getElem?_reverse hlt, show L.length - 1 - j = m by omega]
        exact hx.out
      obtain ⟨b1, o1', rfl, cc1, cc2⟩ := o1.sl.item ((u1.sub.of_below b14).of_below hu.below) hx
      have hmm : ((L.length : Int) - 1 - (j : Int)).toNat = m := by omega
      have i1 : (0 : Int) ≤ (L.length : Int) - 1 - (j : Int) := by omega
      have i2 : (L.length : Int) - 1 - (j : Int) < (L.length : Int) := by omega
      clear hm
      go_wp2_with (at_builtin; refine wpList_append (k := kItem) (h := h') (hx := Hp.none) (A := C) (cap := cap) (B := some ⟨wr.heap.size, 0, none⟩) (xs := L.reverse.take j) (ys := [x]) (by rfl) (.tmp 32) (.tmp 41) 36 (by rfl) 39 i0 (.agg #[.int .i64 0, .int .i64 0]) Try.underlying36 hi hz0 hz1 (by rfl) 16 hz2 j 1 1 HL.out rfl (by rfl) (by rfl) ho.out (hu.sub.of_below (by repeat (first | exact Below.refl _ _ | apply Below.drew | refine Below.alloc ?_ (by simp) _))) (Src.new (heap_new_at (by simp)) rfl) (Hp.none_sub _) (Hp.apart_none _) (by unfold maxLen; omega) (by omega) ?_; intro C' cap' w1 h1' ho1 hu1)
      go_roundw
      case rel => exact ⟨j + 1, cap', C', h1', by omega, by go_num, rfl, by rw [HT.out]; exact ho1, hu.trans (hu1.flat.before (by repeat (first | exact Below.refl _ _ | apply Below.drew | refine Below.alloc ?_ (by simp) _)))⟩
      case measure => simp [intOf]; omega
    · obtain rfl : j = L.length := by omega
      rw [show L.reverse.take L.length = L.reverse by rw [List.take_of_length_le (by simp)]] at ho HL
      have b1r : Below v1.heap.size v1 wr := b14.trans (hu.below.mono b14.size)
      have M1 := mergeF_calls C cap L.reverse h' wr hu.sub ho.out.sl
      rw [hback.out, List.length_reverse] at M1
      go_wp2_with fail
      refine M1.mono ?_
      rintro e v5 ⟨C5, c5, h5, rfl, o5, u5⟩
      have b15 : Below v1.heap.size v1 v5 := b1r.trans (u5.below.mono b1r.size)
      have S := same_line C5 C1 c5 c1 L L h5 h1 v5 u5.sub (u1.sub.of_below b15) o5.sl o1.sl
      rw [eqB_t rfl] at S
      go_wp2_with fail
      refine S.mono ?_
      rintro e v6 ⟨rfl, b6⟩
      have b16 : Below v1.heap.size v1 v6 := b15.trans (b6.mono b15.size)
      clear S M1 u5 o5 ho HL
      go_wp2_with fail
      refine (copy_line C1 c1 L h1 v6 (u1.sub.of_below b16) o1.sl (by omega)).mono ?_
      rintro e v7 ⟨C7, c7, h7, rfl, o7, u7⟩
      have b17 : Below v1.heap.size v1 v7 := b16.trans (u7.below.mono b16.size)
      go_wp2_with fail
      refine (reverse_calls C1 c1 L h1 v7 (u1.sub.of_below b17) o1.sl (by omega)).mono ?_
      rintro e v8 ⟨C8, c8, h8, rfl, o8, u8⟩
      have n7 := u7.sub.of_below u8.below
      have b18 : Below v1.heap.size v1 v8 := b17.trans (u8.below.mono b17.size)
      go_wp2_with (at_builtin; refine wpList_append_g (k := kItem) (h := h7) (hx := Hp.none) (A := C7) (cap := c7) (B := C8) (xs := L) (ys := reverseL L) (by rfl) (.tmp 51) (.tmp 53) 36 (by rfl) 39 i0 (.agg #[.int .i64 0, .int .i64 0]) Try.underlying36 hi hz0 hz1 (by rfl) 16 hz2 L.length L.length c8 rfl hrl.out (by rfl) (by rfl) o7 n7 ((o8.sl.src u8.sub).flat kItem_flat _) (Hp.none_sub _) (Hp.apart_none _) (by unfold maxLen; omega) (by omega) ?_; intro C9 c9 v9 h9 o9 u9)
      have U9 : Upd Hp.none h9 v6 v9 := (u7.after u8.below).trans u9.flat
      have M2 := mergeF_calls C9 c9 (L ++ reverseL L) h9 v9 U9.sub o9.sl
      rw [List.length_append, hrl.out, hgone.out] at M2
      refine M2.mono ?_
      rintro e v10 ⟨C10, c10, h10, rfl, o10, u10⟩
      have b6a : Below v6.heap.size v6 v10 := U9.below.trans (u10.below.mono U9.size)
      have b1a : Below v1.heap.size v1 v10 := b16.trans (b6a.mono b16.size)
      clear M2 u10 o10 U9 u9 o9 u8 o8 u7 o7 b6a b17 b18 n7
      go_wp2_with fail
      refine (reverse_calls C1 c1 L h1 v10 (u1.sub.of_below b1a) o1.sl (by omega)).mono ?_
      rintro e v11 ⟨D1, k1, g1, rfl, q1, t1⟩
      have b1b : Below v1.heap.size v1 v11 := b1a.trans (t1.below.mono b1a.size)
      have K2 := check_calls D1 k1 (reverseL L) g1 v11 t1.sub q1.sl
      rw [hck2.out, hrl.out] at K2
      go_wp2_with fail
      refine K2.mono ?_
      rintro e v12 ⟨rfl, b12⟩
      have b1c : Below v1.heap.size v1 v12 := b1b.trans (b12.mono b1b.size)
      clear K2 t1 q1
      go_wp2_with fail
      refine (reverse_calls C1 c1 L h1 v12 (u1.sub.of_below b1c) o1.sl (by omega)).mono ?_
      rintro e v13 ⟨D2, k2, g2, rfl, q2, t2⟩
      have b1d : Below v1.heap.size v1 v13 := b1c.trans (t2.below.mono b1c.size)
      have RR := reverse_calls D2 k2 (reverseL L) g2 v13 t2.sub q2.sl (by rw [hrl.out]; omega)
      rw [hrr.out, hrl.out] at RR
      go_wp2_with fail
      refine RR.mono ?_
      rintro e v14 ⟨D3, k3, g3, rfl, q3, t3⟩
      have b1e : Below v1.heap.size v1 v14 := b1d.trans (t3.below.mono b1d.size)
      have S := same_line D3 C1 k3 c1 L L g3 h1 v14 t3.sub (u1.sub.of_below b1e) q3.sl o1.sl
      rw [eqB_t rfl] at S
      go_wp2_with fail
      refine S.mono ?_
      rintro e v15 ⟨rfl, b15'⟩
      have b1f : Below v1.heap.size v1 v15 := b1e.trans (b15'.mono b1e.size)
      clear S RR t2 q2 t3 q3
      go_wp2
      go_loopw [75] (fun i wr => ∃ (j : Nat), j ≤ L.length ∧ i = .int .i64 j ∧ Below v1.heap.size v1 wr) (fun i _ => L.length - (intOf i).toNat)
      case atStart => exact ⟨0, by omega, rfl, b1f⟩
      case round =>
        obtain ⟨j, hj, rfl, hb⟩ := hrel
        by_cases hlt : j < L.length
        · obtain ⟨x, hx⟩ := some_of_lt hlt
          obtain ⟨b1, off1, rfl, cc1, cc2⟩ := o1.sl.item (u1.sub.of_below hb) hx
          have i1 : (0 : Int) ≤ (j : Int) := by omega
          have i2 : (j : Int) < (L.length : Int) := by omega
          have N := fun W (hW : Below v1.heap.size v1 W) => net_calls (some ⟨b1, off1, none⟩) c1 L x.kind h1 W (u1.sub.of_below hW) o1.sl
          rw [hmine.out x (List.mem_of_getElem? hx.out)] at N
          go_wp2
          go_region_held3 (fun w' => w'.cell? ⟨wr.heap.size, 0, none⟩ = some (.int .i64 x.kind) ∧ w'.cell? ⟨wr.heap.size, 1, none⟩ = some (.int .i64 x.amt))
            (first | go_keep | (go_split_ands; exact ⟨(t4.cell (by simp)).trans (by assumption), (t4.cell (by simp)).trans (by assumption)⟩))
            (first | (go_at_call 26; refine (N _ (hb.trans (Below.mono (by repeat (first | exact Below.refl _ _ | apply Below.drew | refine Below.alloc ?_ (by simp) _)) hb.size))).mono ?_; rintro e w1 ⟨rfl, t4⟩))
          go_wp2
          go_roundw
          case rel =>
            have bb : Below wr.heap.size wr w1 := (((Below.refl _ _).alloc (Nat.le_refl _) _).drew).trans (t4.mono (by simp))
            exact ⟨j + 1, by omega, by go_num, hb.trans (bb.mono hb.size)⟩
          case measure => simp [intOf]; omega
        · obtain rfl : j = L.length := by omega
          have S := fun W (hW : Below v1.heap.size v1 W) => sidesOfLines_calls C1 c1 L h1 W (u1.sub.of_below hW) o1.sl (by omega)
          rw [heven.out] at S
          have dd : cres L < 2 ^ 53 := by clear hb b1f b1e b1d b1c b1b b1a b16 b15 S; omega
          have E : ∀ W : World, Calls Try.prog 30 #[cx (cres L) (cres L)] W fun e w' => e = .returned (.bool true) ∧ W = w' := fun W => by
            have := even_calls (cres L) (cres L) W dd dd
            rwa [eqB_t rfl] at this
          clear dd d1 d2
          generalize cres L = d at *
          by_cases h0 : L.length = 0
          · have hz : ((L.length : Int) == 0) = true := by rw [h0]; rfl
            clear h0
            go_wp2_with (first | (go_at_call 31; refine (S _ hb).mono ?_; rintro e z1 ⟨rfl, y1⟩) | (go_at_call 30; refine (E _).mono ?_; rintro e z2 ⟨rfl, rfl⟩) | (go_at_call 22; refine (wakes06 _).mono ?_; rintro e z3 ⟨rfl, y3⟩))
            go_ret
            have t1 := hb.trans (y1.mono hb.size)
            have t2 := t1.trans (y3.mono t1.size)
            exact ⟨rfl, u1.below.trans (t2.mono u1.below.size)⟩
          · have hz : ((L.length : Int) == 0) = false := beq_eq_false_iff_ne.2 (by omega)
            have r1 := within_lo at_ (n := L.length) (by omega)
            have r2 := within_hi at_ (n := L.length) (by omega)
            have CW := fun W => within_calls at_ L.length W (by omega) (by omega)
            obtain ⟨m, hm⟩ := Int.eq_ofNat_of_zero_le r1
            rw [hm] at r1 r2 CW
            clear hm
            go_wp2_with (go_at_call 16; refine (CW _).mono ?_; rintro e w' ⟨rfl, rfl⟩)
            obtain ⟨ad, hC⟩ := o1.some_of_lt (show 0 < L.length by omega)
            obtain ⟨b0, off0, cu0, E0, hd, _⟩ := o1.row ad hC
            subst hd
            subst hC
            have hcap := o1.le
            have hcm := o1.max
            unfold maxLen at hcm
            have i1 : (0 : Int) ≤ (m : Int) := by omega
            have i2 : (m : Int) ≤ (c1 : Int) := by omega
            have i3 : (m : Int) + 1 ≤ (L.length : Int) := by omega
            have i4 : (0 : Int) ≤ (m : Int) + 1 := by omega
            have i5 : (L.length : Int) ≤ (c1 : Int) := by omega
            have hwp : IntKind.i64.wrap ((m : Int) + 1) = (m : Int) + 1 := by rw [IntKind.wrap_i64]; omega
            have HK : Hid ((L.take m).length = m) := by unfold Hid; rw [List.length_take]; omega
            have HD : Hid ((L.drop (m + 1)).length = L.length - (m + 1)) := by unfold Hid; rw [List.length_drop]
            have oc := o1.sl.cut (show m ≤ L.length by omega)
            have sd := o1.sl.behind (m + 1)
            go_wp2
            have WL := fun W (hW : Below v1.heap.size v1 W) => u1.sub.of_below hW
            go_region_held3 (fun w' => True) (first | go_keep | (go_split_ands; trivial)) (first | (refine step_append_full (k := kItem) (h := h1) (g := b0) (off := off0) (B := if c1 = m + 1 then some ⟨b0, off0, none⟩ else some ⟨b0, off0 + (m + 1) * 2, none⟩) (xs := L.take m) (ys := L.drop (m + 1)) (by rfl) (.tmp 103) (.tmp 107) 36 (by rfl) 39 i0 (.agg #[.int .i64 0, .int .i64 0]) Try.underlying36 hi hz0 hz1 16 hz2 m (L.length - (m + 1)) (c1 - (m + 1)) HK.out HD.out (by rfl) (by rfl) kItem_flat oc ((u1.sub.of_below hb).of_below (by repeat (first | exact Below.refl _ _ | apply Below.drew | refine Below.alloc ?_ (by simp) _))) ((sd.src ((u1.sub.of_below hb).of_below (by repeat (first | exact Below.refl _ _ | apply Below.drew | refine Below.alloc ?_ (by simp) _)))).flat kItem_flat _) (by unfold maxLen; omega) (by omega) ?_; intro C' cap' w1 ho1 hu1))
            generalize (if c1 = m + 1 then some (⟨b0, off0, none⟩ : Addr) else some ⟨b0, off0 + (m + 1) * 2, none⟩) = BB
            have bz : Below v1.heap.size v1 w1 := hb.trans ((((Below.refl _ _).drew).trans (hu1.mono (by simp))).mono hb.size)
            have hles := hless.out m (by omega)
            have KL := fun W (hW : Below w1.heap.size w1 W) => check_calls C' cap' (L.take m ++ L.drop (m + 1)) (Hp.all w1) W ((Hp.all_sub w1).of_below hW) ho1
            rw [hles, List.length_append, HK.out, HD.out] at KL
            clear hless hsm oc sd ho1
            go_wp2_with fail
            refine (S _ bz).mono ?_
            rintro e z1 ⟨rfl, y1⟩
            go_wp2_with (first | (go_at_call 30; refine (E _).mono ?_; rintro e z2 ⟨rfl, rfl⟩) | (go_at_call 21; refine (KL _ y1).mono ?_; rintro e z2 ⟨rfl, y2⟩) | (go_at_call 22; refine (wakes06 _).mono ?_; rintro e z3 ⟨rfl, y3⟩))
            go_ret
            have t1 := bz.trans (y1.mono bz.size)
            have t2 := t1.trans (y2.mono t1.size)
            have t3 := t2.trans (y3.mono t2.size)
            exact ⟨rfl, u1.below.trans (t3.mono u1.below.size)⟩
end Go.Proofs.Ytnpnndifhlihhaa
