/- The law CrossAssets: for every input it returns true, and its arguments read behind the call as before it. No conditions. -/
import Derived.Test.YtdcfojohgcmpcaaPk4
import Derived.Deep.DeepCutAuto
import Derived.Deep.RegionLaw
import Derived.Deep.RegionWith
import Derived.OwnWalk
section
/- Plain facts for CrossAssets. -/
namespace Go.Sl
open Go Go.RowKit
theorem Sl.litPair {h : Hp} {b n : Nat} {t : TypeId} {fr : Nat × Nat} {xs : List SPair} (hb : h b = some (.cells (xs.flatMap SPair.cells).toArray t fr)) (hn : xs.length = n) (hm : n ≤ maxLen) : Sl kPair h (some ⟨b, 0, .none⟩) n xs := by
  subst hn; exact Sl.lit hb hm
namespace CA
abbrev S : ByteArray := ⟨#[115]⟩
abbrev B : ByteArray := ⟨#[98]⟩
abbrev C : ByteArray := ⟨#[99]⟩
theorem val {v r : Int} (hv : 0 ≤ v ∧ v ≤ 100000) (hr : 0 ≤ r ∧ r ≤ 1000000) : 0 ≤ ofVal v r ∧ ofVal v r ≤ v := by
  have h : ofOk v r = true := by simp [ofOk]; omega
  have h1 : v * r ≤ v * 1000000 := Int.mul_le_mul_of_nonneg_left hr.2 hv.1
  have h2 := Int.mul_nonneg hv.1 hr.1
  unfold ofVal
  rw [if_pos h, partOf_pos hv.1 hr.1]
  omega
theorem ok {s b : ByteArray} {v r : Int} (hv : 0 ≤ v ∧ v ≤ 100000) (hr : 0 ≤ r ∧ r ≤ 1000000) : assOk ⟨s, b, v⟩ r = true := by
  simp [assOk, rightRate, money]; omega
theorem fin {l : List SPair} {rs : List Int} (hl : rs.length = l.length) (h1 : assAll l rs = true) (h2 : 0 ≤ assS l rs ∧ assS l rs ≤ 100000000000) : assE l rs = 0 ∧ assN l rs = assS l rs := by
  have h0 : assE l rs = 0 := by
    unfold assE; rw [if_neg (by simp [hl]), if_neg (by rw [h1]; simp), if_neg (by simp [money]; omega)]
  exact ⟨h0, by unfold assN; rw [if_pos h0]⟩
theorem one {s b : ByteArray} {v r : Int} (hv : 0 ≤ v ∧ v ≤ 100000) (hr : 0 ≤ r ∧ r ≤ 1000000) : assE [⟨s, b, v⟩] [r] = 0 ∧ assN [⟨s, b, v⟩] [r] = ofVal v r := by
  have h := val hv hr
  have e : assS [⟨s, b, v⟩] [r] = ofVal v r := by simp [assS]
  have f := fin (l := [⟨s, b, v⟩]) (rs := [r]) rfl (by simp [assAll, ok hv hr]) (by rw [e]; omega)
  exact ⟨f.1, by rw [f.2, e]⟩
/-- What the loop keeps. -/
structure Upto (l : List SPair) (rs : List Int) (t : Int) (j : Nat) : Prop where
  ll : l.length = j
  lr : rs.length = j
  all : assAll l rs = true
  sum : assS l rs = t
  lo : 0 ≤ t
  hi : t ≤ j * 100000
theorem Upto.nil : Upto [] [] 0 0 := ⟨rfl, rfl, rfl, rfl, by omega, by omega⟩
theorem Upto.snoc {l : List SPair} {rs : List Int} {t : Int} {j : Nat} (u : Upto l rs t j) {s b : ByteArray} {v r : Int} (hv : 0 ≤ v ∧ v ≤ 100000) (hr : 0 ≤ r ∧ r ≤ 1000000) : Upto (l ++ [⟨s, b, v⟩]) (rs ++ [r]) (t + ofVal v r) (j + 1) := by
  have h := val hv hr
  have e : l.length = rs.length := by rw [u.ll, u.lr]
  refine ⟨by simp [u.ll], by simp [u.lr], by rw [assAll_snoc e, u.all, ok hv hr]; rfl, by rw [assS_snoc e, u.sum], ?_, ?_⟩
  · have := u.lo; omega
  · have := u.hi; omega
theorem Upto.fin {l : List SPair} {rs : List Int} {t : Int} {j : Nat} (u : Upto l rs t j) (hj : j ≤ 8) : assE l rs = 0 ∧ assN l rs = t := by
  have h1 := u.lo
  have h2 := u.hi
  have f := CA.fin (l := l) (rs := rs) (by rw [u.ll, u.lr]) u.all (by rw [u.sum]; omega)
  exact ⟨f.1, by rw [f.2, u.sum]⟩
theorem bad {s b : ByteArray} {v r : Int} (h : assOk ⟨s, b, v⟩ r = false) : assE [⟨s, b, v⟩] [r] = 1 ∧ assN [⟨s, b, v⟩] [r] = 0 := by
  have h0 : assE [⟨s, b, v⟩] [r] = 1 := by
    unfold assE; rw [if_neg (by simp), if_pos (by simp [assAll, h])]
  exact ⟨h0, by unfold assN; rw [if_neg (by omega)]⟩
theorem over : assE [⟨S, B, 100000000000⟩, ⟨S, C, 1⟩] [1000000, 1000000] = 6 ∧ assN [⟨S, B, 100000000000⟩, ⟨S, C, 1⟩] [1000000, 1000000] = 0 := by
  have e : assS [⟨S, B, 100000000000⟩, ⟨S, C, 1⟩] [1000000, 1000000] = 100000000001 := by decide
  have h0 : assE [⟨S, B, 100000000000⟩, ⟨S, C, 1⟩] [1000000, 1000000] = 6 := by
    unfold assE; rw [if_neg (by simp), if_neg (by decide), if_pos (by rw [e]; decide)]
  exact ⟨h0, by unfold assN; rw [if_neg (by omega)]⟩
theorem none : assE [] [] = 0 ∧ assN [] [] = 0 := by decide
end CA
end Go.Sl
end
section
/- The walk of law24.CrossAssets. -/
namespace Go.Proofs.Ytdcfojohgcmpcaa
open Go.RowKit Go.Sl
set_option maxHeartbeats 4000000
set_option maxRecDepth 100000
theorem info_one : Info Try.prog 3 (.int .i64 0) 1 8 := by unfold Info; kernel_rfl
theorem crossAssets_calls (A : Option Addr) (ca : Nat) (zs : List Int) (r0 : Int) (k1 : Hp) (w : World) (hs1 : k1.sub w) (s1 : Sl kInt k1 A ca zs) :
    Calls Try.prog 3 #[.slice A zs.length ca, .int .i64 r0] w fun e w' => e = .returned (.bool true) ∧ Below w.heap.size w w' := by
  have E0 := Env.start w
  have m1 := s1.small
  have l1 := within_lo r0 (n := 1000001) (by omega)
  have l2 := within_hi r0 (n := 1000001) (by omega)
  have WR := fun W => within_calls r0 1000001 W (by omega) (by omega)
  generalize within r0 1000001 = r at *
  have E1 := (E0.new (Upd.of_below (Below.refl _ _))).new (Upd.of_below (Below.refl _ _))
  simp at E1
  go_enter Try.func3, Try.ntmps3
  go_wp2_with fail
  refine (WR _).mono ?_
  rintro e w' ⟨rfl, rfl⟩
  go_wp2_with fail
  clear WR
  go_loopw [5, 6, 7, 8] (fun vb vr vt vi wr => ∃ (j c1 c2 : Nat) (t : Int) (CB CR : Option Addr) (l : List SPair) (rs : List Int) (hb hr : Hp), j ≤ 8 ∧ j ≤ zs.length ∧ vi = .int .i64 j ∧ vt = .int .i64 t ∧ vb = .slice CB j c1 ∧ vr = .slice CR j c2 ∧ CA.Upto l rs t j ∧ Ow kPair hb CB c1 l ∧ Ow kInt hr CR c2 rs ∧ Env w wr [hb, hr]) (fun _ _ _ i _ => 8 - (intOf i).toNat)
  case atStart => exact ⟨0, 0, 0, 0, none, none, [], [], Hp.none, Hp.none, by omega, by omega, rfl, rfl, rfl, rfl, CA.Upto.nil, Ow.none _ _, Ow.none _ _, E1⟩
  case round =>
    clear E1
    obtain ⟨j, c1, c2, t, CB, CR, l, rs, hb, hr, hj, hz, rfl, rfl, rfl, rfl, u, ob, orr, E⟩ := hrel
    by_cases hlt : j < zs.length ∧ j < 8
    · obtain ⟨hlt, hl8⟩ := hlt
      obtain ⟨z, hzz⟩ := some_of_lt hlt
      obtain ⟨bz, oz, rfl, cz⟩ := s1.int (hs1.of_below E.low) hzz
      have v1 := within_lo z (n := 100000) (by omega)
      have v2 := within_hi z (n := 100000) (by omega)
      have WV := fun W => within_calls z 100000 W (by omega) (by omega)
      generalize within z 100000 = v at *
      have i1 : (0 : Int) ≤ (j : Int) := by omega
      have i2 : (j : Int) < (zs.length : Int) := by omega
      have i3 : (j : Int) < 8 := by omega
      have HC : ∀ (W : World) (b : Nat), W.cell? ⟨b, 0, none⟩ = some (.int .u8 (97 + (j : Int))) → (convert 25 9 (.slice (some ⟨b, 0, none⟩) 1 1)).run Try.prog W = .ok (.string ⟨#[UInt8.ofNat (97 + j)]⟩) W := by
        intro W b h
        have := conv_byte W (97 + (j : Int)) b 1 h
        rw [show (97 + (j : Int)).toNat = 97 + j by omega] at this
        exact this
      generalize (⟨#[UInt8.ofNat (97 + j)]⟩ : ByteArray) = s at *
      have hw1 : IntKind.i64.wrap (97 + (j : Int)) = 97 + (j : Int) := by simp [IntKind.wrap, IntKind.bits]; omega
      have hw2 : IntKind.u8.wrap (97 + (j : Int)) = 97 + (j : Int) := by simp [IntKind.wrap, IntKind.bits]; omega
      go_upto_region 8 with fail
      go_cut [9] (fun p wx => ∃ b, p = .pointer (some ⟨b, 0, none⟩) ∧ Env w wx [hb, hr, Hp.box b [.string CA.S, .string s, .int .i64 v] 27])
      case first =>
        have cza := fun o => (cell_alloc (o := o) (World.block_lt_of_cell? _ _ cz)).trans cz
        have czb := fun (o p : Obj) => (cell_alloc (o := p) (World.block_lt_of_cell? _ _ (cza o))).trans (cza o)
        go_region_law (rw [if_pos (by rfl)]; go_simp; refine (WV _).mono ?_; rintro e w2 ⟨rfl, rfl⟩; dsimp only)
        all_goals
          go_wp2_with fail
          go_meet
          have Ea := (E.alloc' (.cells #[.int .u8 (97 + (j : Int))] 5)).alloc (.cells #[.string CA.S, .string s, .int .i64 v] 27)
          have Eb := (E.alloc (.cells #[.string CA.S, .string s, .int .i64 v] 27)).alloc' (.cells #[.int .u8 (97 + (j : Int))] 5)
          simp at Ea Eb
          first
            | exact ⟨_, rfl, Ea.drew⟩
            | exact ⟨_, rfl, Eb.drew⟩
      case rest =>
        obtain ⟨b9, rfl, E2⟩ := hcut
        clear E HC cz
        have q0 := E2.cell 2 rfl 0 rfl
        have q1 := E2.cell 2 rfl 1 rfl
        have q2 := E2.cell 2 rfl 2 rfl
        have hv := CA.one (s := CA.S) (b := s) (v := v) (r := r) (by omega) (by omega)
        have hw := CA.val (v := v) (r := r) (by omega) (by omega)
        have un := u.snoc (s := CA.S) (b := s) (v := v) (r := r) (by omega) (by omega)
        have HL1 := Lib.hid u.ll
        have HL2 := Lib.hid u.lr
        have hlo := u.lo
        have hhi := u.hi
        generalize ofVal v r = q at *
        go_wp2_with fail
        have E3 := (E2.alloc (.cells #[.string CA.S, .string s, .int .i64 v] 27)).alloc (.cells #[.int .i64 r] 3)
        simp at E3
        refine (Crs.asset E3 (Sl.litPair (xs := [⟨CA.S, s, v⟩]) (Hp.one_self _ _) rfl (by unfold maxLen; simp)) (E3.sub 3 rfl) (Sl.litInt (xs := [r]) (Hp.one_self _ _) rfl (by unfold maxLen; simp)) (E3.sub 4 rfl) (by simp) 1 1 rfl rfl hv.2 hv.1).mono ?_
        rintro e w4 ⟨rfl, E4⟩
        have p0 := E4.cell 2 rfl 0 rfl
        have p1 := E4.cell 2 rfl 1 rfl
        have p2 := E4.cell 2 rfl 2 rfl
        have t1 : decide (q < 0) = false := by simp; omega
        have t2 : decide (v < q) = false := by simp; omega
        go_wp2_with (first | (at_builtin; refine wpList_eapp 0 ⟨CA.S, s, v⟩ Try.underlying24 info_crow (by repeat (first | (with_reducible exact E4) | (with_reducible apply Env.drew) | (with_reducible apply Env.drewN) | (with_reducible apply Env.alloc'))) (by rfl) ob j HL1.out (by rfl) (by rfl) rfl 1 (by rfl) (by rfl) (heap_new_at (by simp)) (by rfl) (by omega) (by omega) ?_; intro C5 cc5 w5 h5 o5 E5) | (at_builtin; refine wpList_eapp 1 r Try.underlying22 info_one (by repeat (first | (with_reducible exact E5) | (with_reducible apply Env.drew) | (with_reducible apply Env.drewN) | (with_reducible apply Env.alloc'))) (by rfl) orr j HL2.out (by rfl) (by rfl) rfl 1 (by rfl) (by rfl) (heap_new_at (by simp)) (by rfl) (by omega) (by omega) ?_; intro C6 cc6 w6 h6 o6 E6))
        go_roundw
        case rel =>
          have E7 := ((E6.drop 4).drop 3).drop 2
          simp at E7
          exact ⟨j + 1, _, _, _, _, _, _, _, _, _, by omega, by omega, by go_num, rfl, rfl, rfl, un, o5, o6, E7⟩
        case measure => simp [intOf]; omega
    · have hv := CA.Upto.fin u hj
      rcases (show zs.length ≤ j ∨ (j < zs.length ∧ j = 8) by omega) with g | ⟨g, rfl⟩
      all_goals
        have g1 := u.ll
        go_wp2_with fail
        refine (Crs.asset E ob.sl (E.sub 0 rfl) orr.sl (E.sub 1 rfl) (by omega) _ _ u.ll u.lr hv.2 hv.1).mono ?_
        rintro e w4 ⟨rfl, E4⟩
        go_wp2_with fail
        have E5 := E4.alloc (.cells #[.int .i64 (-1), .int .i64 5, .int .i64 100000000001, .int .i64 5, .int .i64 5, .int .i64 (-1), .int .i64 5, .int .i64 1000001] 31)
        simp at E5
        generalize w4.heap.size = bt at *
        go_loopw [88] (fun i wr => ∃ (k : Nat), k ≤ 4 ∧ i = .int .i64 k ∧ Env w wr [hb, hr, Hp.box bt [.int .i64 (-1), .int .i64 5, .int .i64 100000000001, .int .i64 5, .int .i64 5, .int .i64 (-1), .int .i64 5, .int .i64 1000001] 31]) (fun i _ => 4 - (intOf i).toNat)
        case atStart => exact ⟨0, by omega, rfl, E5⟩
        case round =>
          clear E5
          obtain ⟨k, hk, rfl, E5⟩ := hrel
          by_cases hlt : k < 4
          · obtain rfl | rfl | rfl | rfl : k = 0 ∨ k = 1 ∨ k = 2 ∨ k = 3 := by omega
            · have x0 := E5.cell 2 rfl 0 rfl
              have x1 := E5.cell 2 rfl 1 rfl
              have hq := CA.bad (s := CA.S) (b := CA.B) (v := -1) (r := 5) (by decide)
              go_wp2_with fail
              have E6 := ((E5.alloc (.cells #[.int .i64 (-1), .int .i64 (5)] 31)).alloc (.cells #[.string CA.S, .string CA.B, .int .i64 (-1)] 27)).alloc (.cells #[.int .i64 (5)] 3)
              simp at E6
              refine (Crs.asset E6 (Sl.litPair (xs := [⟨CA.S, CA.B, -1⟩]) (Hp.one_self _ _) rfl (by unfold maxLen; simp)) (E6.sub 4 rfl) (Sl.litInt (xs := [5]) (Hp.one_self _ _) rfl (by unfold maxLen; simp)) (E6.sub 5 rfl) (by simp) 1 1 rfl rfl hq.2 hq.1).mono ?_
              rintro e w6 ⟨rfl, E7⟩
              go_wp2
              go_roundw
              case rel =>
                have E8 := ((E7.drop 5).drop 4).drop 3
                simp at E8
                exact ⟨1, by omega, by go_num, E8⟩
              case measure => simp [intOf]
            · have x0 := E5.cell 2 rfl 2 rfl
              have x1 := E5.cell 2 rfl 3 rfl
              have hq := CA.bad (s := CA.S) (b := CA.B) (v := 100000000001) (r := 5) (by decide)
              go_wp2_with fail
              have E6 := ((E5.alloc (.cells #[.int .i64 (100000000001), .int .i64 (5)] 31)).alloc (.cells #[.string CA.S, .string CA.B, .int .i64 (100000000001)] 27)).alloc (.cells #[.int .i64 (5)] 3)
              simp at E6
              refine (Crs.asset E6 (Sl.litPair (xs := [⟨CA.S, CA.B, 100000000001⟩]) (Hp.one_self _ _) rfl (by unfold maxLen; simp)) (E6.sub 4 rfl) (Sl.litInt (xs := [5]) (Hp.one_self _ _) rfl (by unfold maxLen; simp)) (E6.sub 5 rfl) (by simp) 1 1 rfl rfl hq.2 hq.1).mono ?_
              rintro e w6 ⟨rfl, E7⟩
              go_wp2
              go_roundw
              case rel =>
                have E8 := ((E7.drop 5).drop 4).drop 3
                simp at E8
                exact ⟨2, by omega, by go_num, E8⟩
              case measure => simp [intOf]
            · have x0 := E5.cell 2 rfl 4 rfl
              have x1 := E5.cell 2 rfl 5 rfl
              have hq := CA.bad (s := CA.S) (b := CA.B) (v := 5) (r := -1) (by decide)
              go_wp2_with fail
              have E6 := ((E5.alloc (.cells #[.int .i64 (5), .int .i64 (-1)] 31)).alloc (.cells #[.string CA.S, .string CA.B, .int .i64 (5)] 27)).alloc (.cells #[.int .i64 (-1)] 3)
              simp at E6
              refine (Crs.asset E6 (Sl.litPair (xs := [⟨CA.S, CA.B, 5⟩]) (Hp.one_self _ _) rfl (by unfold maxLen; simp)) (E6.sub 4 rfl) (Sl.litInt (xs := [-1]) (Hp.one_self _ _) rfl (by unfold maxLen; simp)) (E6.sub 5 rfl) (by simp) 1 1 rfl rfl hq.2 hq.1).mono ?_
              rintro e w6 ⟨rfl, E7⟩
              go_wp2
              go_roundw
              case rel =>
                have E8 := ((E7.drop 5).drop 4).drop 3
                simp at E8
                exact ⟨3, by omega, by go_num, E8⟩
              case measure => simp [intOf]
            · have x0 := E5.cell 2 rfl 6 rfl
              have x1 := E5.cell 2 rfl 7 rfl
              have hq := CA.bad (s := CA.S) (b := CA.B) (v := 5) (r := 1000001) (by decide)
              go_wp2_with fail
              have E6 := ((E5.alloc (.cells #[.int .i64 (5), .int .i64 (1000001)] 31)).alloc (.cells #[.string CA.S, .string CA.B, .int .i64 (5)] 27)).alloc (.cells #[.int .i64 (1000001)] 3)
              simp at E6
              refine (Crs.asset E6 (Sl.litPair (xs := [⟨CA.S, CA.B, 5⟩]) (Hp.one_self _ _) rfl (by unfold maxLen; simp)) (E6.sub 4 rfl) (Sl.litInt (xs := [1000001]) (Hp.one_self _ _) rfl (by unfold maxLen; simp)) (E6.sub 5 rfl) (by simp) 1 1 rfl rfl hq.2 hq.1).mono ?_
              rintro e w6 ⟨rfl, E7⟩
              go_wp2
              go_roundw
              case rel =>
                have E8 := ((E7.drop 5).drop 4).drop 3
                simp at E8
                exact ⟨4, by omega, by go_num, E8⟩
              case measure => simp [intOf]
          · obtain rfl : k = 4 := by omega
            go_wp2_with fail
            have E6 := (E5.alloc (.cells #[.string CA.S, .string CA.B, .int .i64 100000000000, .string CA.S, .string CA.C, .int .i64 1] 27)).alloc (.cells #[.int .i64 1000000, .int .i64 1000000] 3)
            simp at E6
            refine (Crs.asset E6 (Sl.litPair (xs := [⟨CA.S, CA.B, 100000000000⟩, ⟨CA.S, CA.C, 1⟩]) (Hp.one_self _ _) rfl (by unfold maxLen; simp)) (E6.sub 3 rfl) (Sl.litInt (xs := [1000000, 1000000]) (Hp.one_self _ _) rfl (by unfold maxLen; simp)) (E6.sub 4 rfl) (by simp) 2 2 rfl rfl CA.over.2 CA.over.1).mono ?_
            rintro e w6 ⟨rfl, E7⟩
            go_wp2_with fail
            refine (Crs.asset E7 (Ow.none kPair Hp.none).sl (Hp.none_sub _) (Ow.none kInt Hp.none).sl (Hp.none_sub _) (by simp) 0 0 rfl rfl CA.none.2 CA.none.1).mono ?_
            rintro e w7 ⟨rfl, E8⟩
            go_wp2_with fail
            refine (wakes24 _).mono ?_
            rintro e w8 ⟨rfl, B8⟩
            go_wp2
            go_ret
            exact ⟨rfl, (E8.below B8).low⟩
end Go.Proofs.Ytdcfojohgcmpcaa
end
namespace Go.Proofs.Ytdcfojohgcmpcaa.crossAssets
open Go.ChangeShapes Go.WideShapes Go.ChangeAt Go.RowKit Go.Sl
set_option linter.unusedVariables false
set_option maxRecDepth 100000
theorem lifted (os : Os) (started : os.Started) (H : Type) (enc : TypeId × Value → H) :
    ReturnsInHanded {} Try.checked os 3 .any (Rows.crossAssetsSpec.pre6 enc Try.prog Try.f3 Rows.crossAssetsRow.domain false) (Rows.crossAssetsSpec.post enc Try.prog Try.f3 false true false false) := by
  refine returnsInHanded_of_change_sized (C := Try.checked) Lift.own started (by kernel_rfl) Try.func3
    (ChangeSpec.witness6 (enc := enc) (C := Try.checked) false ⟨#[], #[.slice none 0 0, .int .i64 0], []⟩ 8 (by kernel_rfl) (by kernel_rfl) (by kernel_rfl) (by kernel_rfl)) ?_
  intro W base args ds gs before hval0 hW hcnd hsz0 _
  have hval : ∀ (j : Nat) t v, Try.f3.params[j]? = some t → args[j]? = some v → Value.okWide Try.prog W .any base t v := hval0
  have hW' := hW
  obtain ⟨p, q, hA0, hV, rfl, hfz, hnd⟩ := hW
  have hA : DataW.TrodAll enc Try.prog W 0 (fun _ => true) true Try.f3.params.toList args.toList ds p := hA0
  rw [Try.params3] at hA hval
  obtain ⟨v0, vs0, d0, ds0, p0, q0, hargs, rfl, rfl, h0, r0⟩ := trodAll_cons hA
  obtain ⟨v1, vs1, d1, ds1, p1, q1, rfl, rfl, rfl, h1, r1⟩ := trodAll_cons r0
  obtain ⟨rfl, rfl, rfl⟩ := trodAll_nil r1
  obtain rfl : args = #[v0, v1] := by cases args; simp_all
  obtain ⟨rfl, rfl⟩ := trodVars_none hV
  have k0 := h0
  have lt0 : ∀ x ∈ p0, x.block < W.heap.size := by obtain ⟨m, hm⟩ := k0; exact DataW.trod_lt m _ _ _ hm
  obtain ⟨A0, c0, z0, rfl, s0, w0⟩ := Lift.ints_of (hval 0 22 v0 rfl rfl) h0
  obtain ⟨a1, rfl, rfl, rfl, x1⟩ := open_int Try.underlying3 (hval 1 3 v1 rfl rfl) h1
  have w1 := I64.of_wf x1
  clear hA0 hval0 hsz0
  refine (crossAssets_calls A0 c0 z0 a1 (Hp.all W) W (Hp.all_sub W) s0).mono fun e W' ⟨he, bel⟩ => ?_
  subst he
  exact ⟨_, rfl, _, _, _, [], _, [], hW', trodAll_mk1 (shut_bool Try.underlying4 _), (trodAll_cons_mk (Below.trod Lift.laidOut (by kernel_rfl) (of_decide_eq_true (by kernel_rfl)) k0 bel lt0) (trodAll_cons_mk (shut_int Try.underlying3 x1) trodAll_mk0)), rfl, bel.frame _, fun h => by cases h⟩
theorem over : Rows.crossAssetsRow.holds Try.pinned (OpenSpec.ofChange Rows.crossAssetsSpec) :=
  OpenClaim.holds_of_wide 3 Try.f3 rfl rfl rfl rfl rfl rfl rfl ⟨rfl, rfl, rfl, rfl, rfl⟩ rfl rfl rfl rfl rfl (by kernel_rfl) Try.func3 (by kernel_rfl)
    (of_decide_eq_true (by kernel_rfl)) (by unfold Func.isWrapper; first | (rw [if_pos (by decide +kernel)]; kernel_rfl) | (rw [if_neg (by decide +kernel)]; exact ⟨rfl, rfl⟩))
    (fun os started H enc _ => lifted os started H enc)
end Go.Proofs.Ytdcfojohgcmpcaa.crossAssets
namespace Go.Proofs.Ytdcfojohgcmpcaa
theorem crossAssets_holds : Rows.CrossAssetsSaid := crossAssets.over
#print axioms crossAssets_holds
end Go.Proofs.Ytdcfojohgcmpcaa
