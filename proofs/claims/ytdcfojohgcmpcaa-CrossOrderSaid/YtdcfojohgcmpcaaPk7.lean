/- Walks and plain facts that the laws of this seat share, part 7: contracts of functions, each said at its theorem. -/
import Derived.Test.YtdcfojohgcmpcaaPk6
import Derived.OwnWalk
import Derived.Deep.DeepCutAuto
import Derived.Deep.CutBlock
import Derived.Deep.RegionHeld3
import Derived.StillTail
import Derived.Maps.RangeWalk
import Derived.BigQuiet
set_option linter.all false
section
/- The walk of law24.CrossOrder. -/
namespace Go.Sl
open Go Go.RowKit
structure AccO (ys : List (Nat → Int)) (ms : List ((ByteArray × ByteArray) × Int)) : Prop where
  len : ms.length ≤ ys.length
  acc : ∀ k, accP k ms = tot ys k
theorem AccO.nil : AccO [] [] := ⟨Nat.le_refl _, fun _ => rfl⟩
def incP (x : SPair) : SPair := ⟨x.s, x.b, x.amt + 1⟩
theorem left_nodup {es : Array MapEntry} {clock : Nat} (st : MapKept.Stamped es clock) (seen : Array Nat) : ((leftOf es seen).toList.map (·.born)).Nodup := by
  unfold leftOf
  rw [Array.toList_filter]
  exact st.2.1.sublist (List.filter_sublist.map _)
theorem cntV_none {es : Array MapEntry} {seen : Array Nat} (h : (leftOf es seen).size = 0) : cntV (leftOf es seen).toList = 0 := by
  rw [Array.eq_empty_of_size_eq_zero h]; rfl
theorem left_all (es : Array MapEntry) : (leftOf es #[]).toList = es.toList := by
  unfold leftOf
  rw [Array.toList_filter]
  exact List.filter_eq_self.2 fun x _ => by simp
theorem AccO.snoc {ys : List (Nat → Int)} {ms : List ((ByteArray × ByteArray) × Int)} (T : AccO ys ms) (x : Nat → Int) (ms' : List ((ByteArray × ByteArray) × Int)) (hl : ms'.length ≤ ms.length + 1) (ha : ∀ k, accP k ms' = accP k ms + if kO x = k then aO x else 0) : AccO (ys ++ [x]) ms' :=
  ⟨by have := T.len; rw [List.length_append]; simp only [List.length_cons, List.length_nil]; omega, fun k => by rw [ha, tot_snoc, T.acc]⟩
/-- How far the inner round has come. -/
def CrIn (Z : List (Nat → Int)) (j : Nat) (q : Value) (la lb : List SPair) (ms : List ((ByteArray × ByteArray) × Int)) : Prop :=
  (q = .int .i64 0 ∧ StO (Z.take j) la ∧ StO (Z.reverse.take j) lb ∧ AccO (Z.take j) ms) ∨
  (q = .int .i64 1 ∧ StO (Z.take (j + 1)) la ∧ StO (Z.reverse.take j) lb ∧ AccO (Z.take (j + 1)) ms) ∨
  (q = .int .i64 2 ∧ StO (Z.take (j + 1)) la ∧ StO (Z.reverse.take (j + 1)) lb ∧ AccO (Z.take (j + 1)) ms)
theorem sO_of (v : Int) : (within v 3 = 0 ∧ sO v = ⟨#[112]⟩) ∨ (within v 3 = 1 ∧ sO v = ⟨#[113]⟩) ∨ (within v 3 = 2 ∧ sO v = ⟨#[114]⟩) := by
  have h1 := within_lo v (n := 3) (by omega)
  have h2 := within_hi v (n := 3) (by omega)
  unfold sO
  rcases (show within v 3 = 0 ∨ within v 3 = 1 ∨ within v 3 = 2 by omega) with h | h | h <;> rw [h] <;> simp
theorem bO_of (v : Int) : (within v 2 = 0 ∧ bO v = ⟨#[117]⟩) ∨ (within v 2 = 1 ∧ bO v = ⟨#[118]⟩) := by
  have h1 := within_lo v (n := 2) (by omega)
  have h2 := within_hi v (n := 2) (by omega)
  unfold bO
  rcases (show within v 2 = 0 ∨ within v 2 = 1 by omega) with h | h <;> rw [h] <;> simp
def croF (bx ka kb : Nat) (sx sb : ByteArray) (v0 v1 : Int) (k : Nat) (v : Value) (V : World) : Prop := match k with
  | 0 => ∃ bq, v = .slice (some ⟨bq, 0, none⟩) 3 3 ∧ V.cell? ⟨bq, ka, none⟩ = some (.string sx)
  | 4 => ∃ bq, v = .pointer (some ⟨bq, ka, none⟩) ∧ V.cell? ⟨bq, ka, none⟩ = some (.string sx)
  | 6 => ∃ bq, v = .slice (some ⟨bq, 0, none⟩) 2 2 ∧ V.cell? ⟨bq, kb, none⟩ = some (.string sb)
  | 10 => ∃ bq, v = .pointer (some ⟨bq, kb, none⟩) ∧ V.cell? ⟨bq, kb, none⟩ = some (.string sb)
  | 1 => v = .pointer (some ⟨bx, 0, none⟩)
  | 2 => v = .int .i64 v0
  | 3 => v = .int .i64 (ka : Int)
  | 5 => v = .string sx
  | 7 => v = .pointer (some ⟨bx, 1, none⟩)
  | 8 => v = .int .i64 v1
  | 9 => v = .int .i64 (kb : Int)
  | 11 => v = .string sb
  | 12 => v = .string sx
  | 13 => v = .string sb
  | _ => True
theorem croF_below {bx ka kb : Nat} {sx sb : ByteArray} {v0 v1 : Int} {k : Nat} {v : Value} {V V' : World} (B : Below V.heap.size V V') (h : croF bx ka kb sx sb v0 v1 k v V) : croF bx ka kb sx sb v0 v1 k v V' := by
  match k, h with
  | 0, h => obtain ⟨bq, h1, h2⟩ := h; exact ⟨bq, h1, (B.cell (World.block_lt_of_cell? _ _ h2)).trans h2⟩
  | 4, h => obtain ⟨bq, h1, h2⟩ := h; exact ⟨bq, h1, (B.cell (World.block_lt_of_cell? _ _ h2)).trans h2⟩
  | 6, h => obtain ⟨bq, h1, h2⟩ := h; exact ⟨bq, h1, (B.cell (World.block_lt_of_cell? _ _ h2)).trans h2⟩
  | 10, h => obtain ⟨bq, h1, h2⟩ := h; exact ⟨bq, h1, (B.cell (World.block_lt_of_cell? _ _ h2)).trans h2⟩
  | 1, h => exact h
  | 2, h => exact h
  | 3, h => exact h
  | 5, h => exact h
  | 7, h => exact h
  | 8, h => exact h
  | 9, h => exact h
  | 11, h => exact h
  | 12, h => exact h
  | 13, h => exact h
  | k + 14, h => trivial
end Go.Sl
namespace Go.Proofs.Ytdcfojohgcmpcaa
open Go.RowKit Go.Sl
set_option maxHeartbeats 4000000
set_option maxRecDepth 100000
theorem crossOrder_calls (A : Option Addr) (ca : Nat) (xs : List (Nat → Int)) (k1 : Hp) (w : World) (hs1 : k1.sub w) (s1 : Sl (kFun 3 (by decide)) k1 A ca xs) :
    Calls Try.prog 7 #[.slice A xs.length ca] w fun e w' => e = .returned (.bool true) ∧ Below w.heap.size w w' := by
  have hmm := @run_makeMap Try.prog
  have E0 := Env.start w
  have m1 := s1.small
  obtain ⟨n, hn, hn8, hnl, hmin⟩ : ∃ n : Nat, min xs.length 8 = n ∧ n ≤ 8 ∧ n ≤ xs.length ∧ min (xs.length : Int) 8 = n := ⟨_, rfl, by omega, by omega, by omega⟩
  have hmin2 : (if (xs.length : Int) ≤ 8 then (xs.length : Int) else 8) = n := by omega
  clear hn
  obtain ⟨Z, hZ⟩ : ∃ Z, xs.take n = Z := ⟨_, rfl⟩
  have hZl : Z.length = n := by rw [← hZ, List.length_take]; omega
  have HZL := Lib.hid hZl
  have HXZ : Hid (∀ i, i < n → xs[i]? = Z[i]?) := fun i hi => by rw [← hZ, List.getElem?_take, if_pos hi]
  clear hZ hZl
  go_enter Try.func7, Try.ntmps7
  go_wp2_with fail
  refine (Crs.new E0).mono ?_
  rintro e w1 ⟨ha, a, rfl, Sa, E1⟩
  try simp at E1
  go_wp2_with fail
  refine (Crs.new E1).mono ?_
  rintro e w2 ⟨hb, b, rfl, Sb, E2⟩
  try simp at E2
  obtain ⟨hM, M0, E3⟩ := MapP.new E2
  simp at E3
  go_upto_region 5 with fail
  clear E1 E2 hmm
  generalize w2.heap.size = bm at *
  go_wp2_with fail
  clear hmin hmin2
  go_loopw [7] (fun i wr => ∃ (j : Nat) (ga gb gm : Hp) (la lb : List SPair) (ms : List ((ByteArray × ByteArray) × Int)), j ≤ n ∧ i = .int .i64 j ∧ Crs ga a la ∧ Crs gb b lb ∧ MapP gm bm ms ∧ StO (Z.take j) la ∧ StO (Z.reverse.take j) lb ∧ AccO (Z.take j) ms ∧ Env w wr [ga, gb, gm]) (fun i _ => n - (intOf i).toNat)
  case atStart => exact ⟨0, ha, hb, hM, [], [], [], by omega, rfl, Sa, Sb, M0, StO.nil, StO.nil, AccO.nil, E3⟩
  case round =>
    clear E3 Sa Sb M0
    obtain ⟨j, ga, gb, gm, la, lb, ms, hj, rfl, Sa, Sb, M, Ta, Tb, TM, E⟩ := hrel
    by_cases hlt : j < n
    · obtain ⟨x, hxZ⟩ := some_of_lt (show j < Z.length by rw [HZL.out]; exact hlt)
      obtain ⟨m, hmj⟩ : ∃ m : Nat, n - 1 - j = m := ⟨_, rfl⟩
      obtain ⟨y, hyZ⟩ := some_of_lt (show m < Z.length by rw [HZL.out]; omega)
      have hx : Hid (xs[j]? = some x) := by unfold Hid; rw [HXZ.out j hlt]; exact hxZ.out
      have hy : Hid (xs[m]? = some y) := by unfold Hid; rw [HXZ.out m (by omega)]; exact hyZ.out
      have hyR : Hid (Z.reverse[j]? = some y) := by unfold Hid; rw [List.getElem?_reverse (by rw [HZL.out]; exact hlt), HZL.out, hmj]; exact hyZ.out
      have TX : Hid (Z.take (j + 1) = Z.take j ++ [x]) := take_next hxZ
      have TY : Hid (Z.reverse.take (j + 1) = Z.reverse.take j ++ [y]) := take_next hyR
      have l1 : (Z.take j).length = j := by rw [List.length_take, HZL.out]; omega
      have l2 : (Z.reverse.take j).length = j := by rw [List.length_take, List.length_reverse, HZL.out]; omega
      have i1 : (0 : Int) ≤ (j : Int) := by omega
      have i2 : (j : Int) < (xs.length : Int) := by omega
      have i3 : (0 : Int) ≤ (m : Int) := by omega
      have i4 : (m : Int) < (xs.length : Int) := by omega
      have hw1 : IntKind.i64.wrap ((n : Int) - 1) = (n : Int) - 1 := by rw [IntKind.wrap_i64]; omega
      have hw2 : IntKind.i64.wrap ((n : Int) - 1 - (j : Int)) = (m : Int) := by rw [IntKind.wrap_i64]; omega
      have E4 := E.alloc (.cells #[.pointer (some ⟨a, 0, none⟩), .pointer (some ⟨b, 0, none⟩)] 51)
      simp at E4
      go_wp2_with fail
      generalize wr.heap.size = bs at *
      go_loopw [42] (fun q wx => ∃ (ga gb gm : Hp) (la lb : List SPair) (ms : List ((ByteArray × ByteArray) × Int)), CrIn Z j q la lb ms ∧ Crs ga a la ∧ Crs gb b lb ∧ MapP gm bm ms ∧ Env w wx [ga, gb, gm, Hp.box bs [.pointer (some ⟨a, 0, none⟩), .pointer (some ⟨b, 0, none⟩)] 51]) (fun i _ => 2 - (intOf i).toNat)
      case atStart => exact ⟨ga, gb, gm, la, lb, ms, .inl ⟨rfl, Ta, Tb, TM⟩, Sa, Sb, M, E4⟩
      case round =>
        clear E4 E Sa Sb M Ta Tb TM
        clear la lb ms
        obtain ⟨ga, gb, gm, la', lb', ms, HC, Sa, Sb, M, E⟩ := hrel
        obtain ⟨ba, oa, rfl, d0, d1, d2⟩ := s1.fn3 (hs1.of_below E.low) hx
        obtain ⟨ba', oa', he, e0, e1, e2⟩ := s1.fn3 (hs1.of_below E.low) hy
        cases he
        have p0 := E.cell 3 rfl 0 rfl
        have p1 := E.cell 3 rfl 1 rfl
        rcases HC with ⟨rfl, Ta, Tb, TM⟩ | ⟨rfl, Ta, Tb, TM⟩ | ⟨rfl, Ta, Tb, TM⟩
        · obtain ⟨qa, HA, Ta'⟩ := Ta.add (by omega) x
          rw [← TX.out] at Ta'
          have TM' := TM.snoc x
          rw [← TX.out] at TM'
          have E5 := E.alloc (.cells #[.int .i64 (x 0), .int .i64 (x 1), .int .i64 (x 2)] 56)
          simp at E5
          go_upto_region 15 with fail
          obtain ⟨W, hW⟩ : ∃ W : World, W = wr.alloc (.cells #[.int .i64 (x 0), .int .i64 (x 1), .int .i64 (x 2)] 56) := ⟨_, rfl⟩
          rw [← hW] at E5
          rw [← hW]
          clear hW d0 d1 d2 e0 e1 e2 p0 p1 E
          generalize wr.heap.size = bx at *
          have htb := tot_bd (sO (x 0), bO (x 1)) (Z.take j)
          clear hx hxZ TX TY hy hyZ hyR
          have hab := aO_bd x
          unfold aO at HA TM' hab
          simp only [kO] at TM'
          generalize x = z at *
          obtain ⟨sx, hsx⟩ : ∃ s, sO (z 0) = s := ⟨_, rfl⟩
          obtain ⟨sb, hsb⟩ : ∃ s, bO (z 1) = s := ⟨_, rfl⟩
          simp only [hsx, hsb] at HA htb TM'
          have HA := Lib.hid HA
          have WA := fun W => within_calls (z 0) 3 W (by omega) (by omega)
          have WB := fun W => within_calls (z 1) 2 W (by omega) (by omega)
          have hka := sO_of (z 0)
          have hkb := bO_of (z 1)
          obtain ⟨ka, eka, hja, ka1, ka2⟩ : ∃ ka : Nat, within (z 0) 3 = (ka : Int) ∧ (∀ V : World, (V.alloc (.cells #[.string ⟨#[112]⟩, .string ⟨#[113]⟩, .string ⟨#[114]⟩] 9)).cell? ⟨V.heap.size, ka, none⟩ = some (.string (sO (z 0)))) ∧ (0 : Int) ≤ (ka : Int) ∧ (ka : Int) < 3 := by
            rcases hka with ⟨h, e⟩ | ⟨h, e⟩ | ⟨h, e⟩
            · exact ⟨0, h, fun V => by rw [e]; exact (cell_new rfl).trans rfl, by omega, by omega⟩
            · exact ⟨1, h, fun V => by rw [e]; exact (cell_new rfl).trans rfl, by omega, by omega⟩
            · exact ⟨2, h, fun V => by rw [e]; exact (cell_new rfl).trans rfl, by omega, by omega⟩
          obtain ⟨kb, ekb, hjb, kb1, kb2⟩ : ∃ kb : Nat, within (z 1) 2 = (kb : Int) ∧ (∀ V : World, (V.alloc (.cells #[.string ⟨#[117]⟩, .string ⟨#[118]⟩] 9)).cell? ⟨V.heap.size, kb, none⟩ = some (.string (bO (z 1)))) ∧ (0 : Int) ≤ (kb : Int) ∧ (kb : Int) < 2 := by
            rcases hkb with ⟨h, e⟩ | ⟨h, e⟩
            · exact ⟨0, h, fun V => by rw [e]; exact (cell_new rfl).trans rfl, by omega, by omega⟩
            · exact ⟨1, h, fun V => by rw [e]; exact (cell_new rfl).trans rfl, by omega, by omega⟩
          rw [eka] at WA
          rw [ekb] at WB
          clear hka hkb eka ekb
          have hkk := kO_ok z
          simp only [kO] at hkk
          rw [hsx, hsb] at hkk
          rw [hsx] at hja
          rw [hsb] at hjb
          clear hsx hsb
          refine wp_region_facts_ord (F := croF bx ka kb sx sb (z 0) (z 1)) (G := fun V => Env w V [ga, gb, gm, Hp.box bs [.pointer (some ⟨a, 0, none⟩), .pointer (some ⟨b, 0, none⟩)] 51, Hp.box bx [.int .i64 (z 0), .int .i64 (z 1), .int .i64 (z 2)] 56]) [0, 1, 2, 3, 4, 5, 10, 6, 7, 8, 11, 12, 9, 13] (by kernel_rfl) (by kernel_rfl) (by kernel_rfl) E5.drew ?_ ?_
          · intro i o ho a V g kp hd
            have B0 := Below.refl V.heap.size V
            match i, ho with
            | 0, ho =>
              simp at ho
              subst ho
              refine wpOp_step (o := _) rfl ?_
              intro K' hK'
              rw [if_pos (by rfl)]
              go_simp
              have B1 := B0.alloc (Nat.le_refl _) (.cells #[.string ⟨#[112]⟩, .string ⟨#[113]⟩, .string ⟨#[114]⟩] 9)
              exact hK' _ _ ⟨_, rfl, fun _ => ⟨_, rfl, hja V⟩, g.below B1, fun k v h => croF_below B1 h⟩
            | 1, ho =>
              simp at ho
              subst ho
              have h10 : a.tmps[10]?.getD undef = .pointer (some ⟨bx, 0, none⟩) := (kp.at (t := 10) (by kernel_rfl)).trans rfl
              refine wpOp_step (o := _) rfl ?_
              intro K' hK'
              rw [if_pos (by rfl)]
              go_simp
              exact hK' _ _ ⟨_, rfl, fun _ => rfl, g, fun k v h => h⟩
            | 2, ho =>
              simp at ho
              subst ho
              have h61 : a.tmps[61]?.getD undef = .pointer (some ⟨bx, 0, none⟩) := (eval_tmp a 61).symm.trans (hd ⟨1, .data⟩ (by simp) rfl _ _ rfl rfl)
              have c0 := g.cell 4 rfl 0 rfl
              refine wpOp_step (o := _) rfl ?_
              intro K' hK'
              rw [if_pos (by rfl)]
              go_simp
              exact hK' _ _ ⟨_, rfl, fun _ => rfl, g, fun k v h => h⟩
            | 3, ho =>
              simp at ho
              subst ho
              have h62 : a.tmps[62]?.getD undef = .int .i64 (z 0) := (eval_tmp a 62).symm.trans (hd ⟨2, .data⟩ (by simp) rfl _ _ rfl rfl)
              refine wpOp_step (o := _) rfl ?_
              intro K' hK'
              rw [if_pos (by rfl)]
              go_simp
              refine (WA _).mono ?_
              rintro e w' ⟨rfl, rfl⟩
              exact hK' _ _ ⟨_, rfl, fun _ => rfl, g, fun k v h => h⟩
            | 4, ho =>
              simp at ho
              subst ho
              obtain ⟨bq, e9, hc⟩ := hd ⟨0, .data⟩ (by simp) rfl _ _ rfl rfl
              have h60 := (eval_tmp a 60).symm.trans e9
              clear e9
              have h63 : a.tmps[63]?.getD undef = .int .i64 (ka : Int) := (eval_tmp a 63).symm.trans (hd ⟨3, .data⟩ (by simp) rfl _ _ rfl rfl)
              refine wpOp_step (o := _) rfl ?_
              intro K' hK'
              rw [if_pos (by rfl)]
              go_simp
              exact hK' _ _ ⟨_, rfl, fun _ => ⟨bq, rfl, hc⟩, g, fun k v h => h⟩
            | 5, ho =>
              simp at ho
              subst ho
              obtain ⟨bq, e9, hc⟩ := hd ⟨4, .data⟩ (by simp) rfl _ _ rfl rfl
              have h64 := (eval_tmp a 64).symm.trans e9
              clear e9
              refine wpOp_step (o := _) rfl ?_
              intro K' hK'
              rw [if_pos (by rfl)]
              go_simp
              exact hK' _ _ ⟨_, rfl, fun _ => rfl, g, fun k v h => h⟩
            | 6, ho =>
              simp at ho
              subst ho
              refine wpOp_step (o := _) rfl ?_
              intro K' hK'
              rw [if_pos (by rfl)]
              go_simp
              have B1 := B0.alloc (Nat.le_refl _) (.cells #[.string ⟨#[117]⟩, .string ⟨#[118]⟩] 9)
              exact hK' _ _ ⟨_, rfl, fun _ => ⟨_, rfl, hjb V⟩, g.below B1, fun k v h => croF_below B1 h⟩
            | 7, ho =>
              simp at ho
              subst ho
              have h10 : a.tmps[10]?.getD undef = .pointer (some ⟨bx, 0, none⟩) := (kp.at (t := 10) (by kernel_rfl)).trans rfl
              refine wpOp_step (o := _) rfl ?_
              intro K' hK'
              rw [if_pos (by rfl)]
              go_simp
              exact hK' _ _ ⟨_, rfl, fun _ => rfl, g, fun k v h => h⟩
            | 8, ho =>
              simp at ho
              subst ho
              have h67 : a.tmps[67]?.getD undef = .pointer (some ⟨bx, 1, none⟩) := (eval_tmp a 67).symm.trans (hd ⟨7, .data⟩ (by simp) rfl _ _ rfl rfl)
              have c1 := g.cell 4 rfl 1 rfl
              refine wpOp_step (o := _) rfl ?_
              intro K' hK'
              rw [if_pos (by rfl)]
              go_simp
              exact hK' _ _ ⟨_, rfl, fun _ => rfl, g, fun k v h => h⟩
            | 9, ho =>
              simp at ho
              subst ho
              have h68 : a.tmps[68]?.getD undef = .int .i64 (z 1) := (eval_tmp a 68).symm.trans (hd ⟨8, .data⟩ (by simp) rfl _ _ rfl rfl)
              refine wpOp_step (o := _) rfl ?_
              intro K' hK'
              rw [if_pos (by rfl)]
              go_simp
              refine (WB _).mono ?_
              rintro e w' ⟨rfl, rfl⟩
              exact hK' _ _ ⟨_, rfl, fun _ => rfl, g, fun k v h => h⟩
            | 10, ho =>
              simp at ho
              subst ho
              obtain ⟨bq, e9, hc⟩ := hd ⟨6, .data⟩ (by simp) rfl _ _ rfl rfl
              have h66 := (eval_tmp a 66).symm.trans e9
              clear e9
              have h69 : a.tmps[69]?.getD undef = .int .i64 (kb : Int) := (eval_tmp a 69).symm.trans (hd ⟨9, .data⟩ (by simp) rfl _ _ rfl rfl)
              refine wpOp_step (o := _) rfl ?_
              intro K' hK'
              rw [if_pos (by rfl)]
              go_simp
              exact hK' _ _ ⟨_, rfl, fun _ => ⟨bq, rfl, hc⟩, g, fun k v h => h⟩
            | 11, ho =>
              simp at ho
              subst ho
              obtain ⟨bq, e9, hc⟩ := hd ⟨10, .data⟩ (by simp) rfl _ _ rfl rfl
              have h70 := (eval_tmp a 70).symm.trans e9
              clear e9
              refine wpOp_step (o := _) rfl ?_
              intro K' hK'
              rw [if_pos (by rfl)]
              go_simp
              exact hK' _ _ ⟨_, rfl, fun _ => rfl, g, fun k v h => h⟩
            | 12, ho =>
              simp at ho
              subst ho
              have h65 : a.tmps[65]?.getD undef = .string sx := (eval_tmp a 65).symm.trans (hd ⟨5, .data⟩ (by simp) rfl _ _ rfl rfl)
              refine wpOp_step (o := _) rfl ?_
              intro K' hK'
              rw [if_pos (by rfl)]
              go_simp
              exact hK' _ _ ⟨_, rfl, fun _ => rfl, g, fun k v h => h⟩
            | 13, ho =>
              simp at ho
              subst ho
              have h71 : a.tmps[71]?.getD undef = .string sb := (eval_tmp a 71).symm.trans (hd ⟨11, .data⟩ (by simp) rfl _ _ rfl rfl)
              refine wpOp_step (o := _) rfl ?_
              intro K' hK'
              rw [if_pos (by rfl)]
              go_simp
              exact hK' _ _ ⟨_, rfl, fun _ => rfl, g, fun k v h => h⟩
            | k + 14, ho => exact absurd ho (by simp)
          · intro a' V g kp hf
            have h11 : a'.eval (.tmp 11) = .string sx := hf 12 _ 11 rfl rfl
            have h12 : a'.eval (.tmp 12) = .string sb := hf 13 _ 12 rfl rfl
            have ha := kp.act [60, 61, 62, 63, 64, 65, 66, 67, 68, 69, 70, 71, 11, 12] (by kernel_rfl)
            simp only [layAll, List.foldl_cons, List.foldl_nil, h11, h12] at ha
            clear kp hf h11 h12 hja hjb WA WB
            generalize a'.eval (.tmp 60) = s60 at ha
            generalize a'.eval (.tmp 61) = s61 at ha
            generalize a'.eval (.tmp 62) = s62 at ha
            generalize a'.eval (.tmp 63) = s63 at ha
            generalize a'.eval (.tmp 64) = s64 at ha
            generalize a'.eval (.tmp 65) = s65 at ha
            generalize a'.eval (.tmp 66) = s66 at ha
            generalize a'.eval (.tmp 67) = s67 at ha
            generalize a'.eval (.tmp 68) = s68 at ha
            generalize a'.eval (.tmp 69) = s69 at ha
            generalize a'.eval (.tmp 70) = s70 at ha
            generalize a'.eval (.tmp 71) = s71 at ha
            simp only [Act.put, List.setIfInBounds_toArray, List.set_cons_succ, List.set_cons_zero] at ha
            subst ha
            refine ‹∀ (a : Act) (w : World), Code.wp _ _ _ a w → _› _ _ ?_
            clear E5
            clear W
            have q2 := g.cell 4 rfl 2 rfl
            go_wp2_with fail
            refine (within_calls (z 2) 1000 _ (by omega) (by omega)).mono ?_
            rintro e w' ⟨rfl, rfl⟩
            go_wp2_with fail
            refine (Crs.add Sa g 0 rfl _ _ _ HA.out).mono ?_
            rintro e w8 ⟨ga', rfl, Sa', E8⟩
            have E9 := E8.drop 4
            simp at E9
            clear E8 q2 g
            go_upto_region 20 with fail
            have hml : ms.length ≤ 1000 := by have := TM.len; omega
            obtain ⟨v0, st, W1, W2, gm', ms', r1, r2, r3, M', u', hl', hacc⟩ := M.entry (W := w8.drew) (E9.drew.sub 2 rfl) hml (sx, sb) hkk (within (z 2) 1000)
            have hlook := M.look (W := w8.drew) (E9.drew.sub 2 rfl) (sx, sb) hkk
            have E10 := E9.drew.upd 2 rfl u'
            simp at E10
            have TM2 := TM' ms' hl' hacc
            simp only [kvP] at r1 hlook r3
            have hsm := TM.acc (sx, sb)
            generalize accP (sx, sb) ms = sm at *
            generalize within (z 2) 1000 = am at *
            have hwr : IntKind.i64.wrap (sm + am) = sm + am := by rw [IntKind.wrap_i64]; omega
            clear hsm htb hab hacc hl' TM'
            go_region_held3 (fun _ => True) (trivial) (fail)
            all_goals
              go_wp2_with fail
              go_roundw
              case rel => exact ⟨ga', gb, gm', qa, lb', ms', .inr (.inl ⟨rfl, Ta', Tb, TM2⟩), Sa', Sb, M', E10⟩
              case measure => simp [intOf]
        · obtain ⟨qb, HB, Tb'⟩ := Tb.add (by omega) y
          rw [← TY.out] at Tb'
          have E5 := E.alloc (.cells #[.int .i64 (x 0), .int .i64 (x 1), .int .i64 (x 2)] 56)
          simp at E5
          go_upto_region 14 with fail
          obtain ⟨W, hW⟩ : ∃ W : World, W = wr.alloc (.cells #[.int .i64 (x 0), .int .i64 (x 1), .int .i64 (x 2)] 56) := ⟨_, rfl⟩
          rw [← hW] at E5
          rw [← hW]
          clear hW d0 d1 d2 e0 e1 e2 p0 p1 E
          generalize wr.heap.size = bx at *
          obtain ⟨ba', oa', he, e0, e1, e2⟩ := s1.fn3 (hs1.of_below E5.low) hy
          cases he
          have q0 := E5.cell 4 rfl 0 rfl
          have q1 := E5.cell 4 rfl 1 rfl
          have q2 := E5.cell 4 rfl 2 rfl
          have qf := fun k => E5.free 4 rfl k
          go_upto_region 15 with fail
          clear q0 q1 q2 qf e0 e1 e2
          have E6q0 := E5.cellset 4 rfl 0 (.int .i64 (y 0))
          simp only [List.set_cons_zero, List.set_cons_succ] at E6q0
          have E6q1 := E6q0.cellset 4 rfl 1 (.int .i64 (y 1))
          simp only [List.set_cons_zero, List.set_cons_succ] at E6q1
          clear E6q0
          have E6 := E6q1.cellset 4 rfl 2 (.int .i64 (y 2))
          simp only [List.set_cons_zero, List.set_cons_succ] at E6
          clear E6q1
          clear E5
          have E5 := E6
          clear E6
          generalize ((W.setCell ⟨bx, 0, none⟩ (.int .i64 (y 0))).setCell ⟨bx, 1, none⟩ (.int .i64 (y 1))).setCell ⟨bx, 2, none⟩ (.int .i64 (y 2)) = W9 at *
          clear W
          rename_i W
          clear hx hxZ TX TY hy hyZ hyR
          unfold aO at HB
          generalize y = z at *
          obtain ⟨sx, hsx⟩ : ∃ s, sO (z 0) = s := ⟨_, rfl⟩
          obtain ⟨sb, hsb⟩ : ∃ s, bO (z 1) = s := ⟨_, rfl⟩
          simp only [hsx, hsb] at HB
          have HB := Lib.hid HB
          have WA := fun W => within_calls (z 0) 3 W (by omega) (by omega)
          have WB := fun W => within_calls (z 1) 2 W (by omega) (by omega)
          have hka := sO_of (z 0)
          have hkb := bO_of (z 1)
          obtain ⟨ka, eka, hja, ka1, ka2⟩ : ∃ ka : Nat, within (z 0) 3 = (ka : Int) ∧ (∀ V : World, (V.alloc (.cells #[.string ⟨#[112]⟩, .string ⟨#[113]⟩, .string ⟨#[114]⟩] 9)).cell? ⟨V.heap.size, ka, none⟩ = some (.string (sO (z 0)))) ∧ (0 : Int) ≤ (ka : Int) ∧ (ka : Int) < 3 := by
            rcases hka with ⟨h, e⟩ | ⟨h, e⟩ | ⟨h, e⟩
            · exact ⟨0, h, fun V => by rw [e]; exact (cell_new rfl).trans rfl, by omega, by omega⟩
            · exact ⟨1, h, fun V => by rw [e]; exact (cell_new rfl).trans rfl, by omega, by omega⟩
            · exact ⟨2, h, fun V => by rw [e]; exact (cell_new rfl).trans rfl, by omega, by omega⟩
          obtain ⟨kb, ekb, hjb, kb1, kb2⟩ : ∃ kb : Nat, within (z 1) 2 = (kb : Int) ∧ (∀ V : World, (V.alloc (.cells #[.string ⟨#[117]⟩, .string ⟨#[118]⟩] 9)).cell? ⟨V.heap.size, kb, none⟩ = some (.string (bO (z 1)))) ∧ (0 : Int) ≤ (kb : Int) ∧ (kb : Int) < 2 := by
            rcases hkb with ⟨h, e⟩ | ⟨h, e⟩
            · exact ⟨0, h, fun V => by rw [e]; exact (cell_new rfl).trans rfl, by omega, by omega⟩
            · exact ⟨1, h, fun V => by rw [e]; exact (cell_new rfl).trans rfl, by omega, by omega⟩
          rw [eka] at WA
          rw [ekb] at WB
          clear hka hkb eka ekb
          have hkk := kO_ok z
          simp only [kO] at hkk
          rw [hsx, hsb] at hkk
          rw [hsx] at hja
          rw [hsb] at hjb
          clear hsx hsb
          refine wp_region_facts_ord (F := croF bx ka kb sx sb (z 0) (z 1)) (G := fun V => Env w V [ga, gb, gm, Hp.box bs [.pointer (some ⟨a, 0, none⟩), .pointer (some ⟨b, 0, none⟩)] 51, Hp.box bx [.int .i64 (z 0), .int .i64 (z 1), .int .i64 (z 2)] 56]) [0, 1, 2, 3, 4, 5, 10, 6, 7, 8, 11, 12, 9, 13] (by kernel_rfl) (by kernel_rfl) (by kernel_rfl) E5.drew ?_ ?_
          · intro i o ho a V g kp hd
            have B0 := Below.refl V.heap.size V
            match i, ho with
            | 0, ho =>
              simp at ho
              subst ho
              refine wpOp_step (o := _) rfl ?_
              intro K' hK'
              rw [if_pos (by rfl)]
              go_simp
              have B1 := B0.alloc (Nat.le_refl _) (.cells #[.string ⟨#[112]⟩, .string ⟨#[113]⟩, .string ⟨#[114]⟩] 9)
              exact hK' _ _ ⟨_, rfl, fun _ => ⟨_, rfl, hja V⟩, g.below B1, fun k v h => croF_below B1 h⟩
            | 1, ho =>
              simp at ho
              subst ho
              have h10 : a.tmps[10]?.getD undef = .pointer (some ⟨bx, 0, none⟩) := (kp.at (t := 10) (by kernel_rfl)).trans rfl
              refine wpOp_step (o := _) rfl ?_
              intro K' hK'
              rw [if_pos (by rfl)]
              go_simp
              exact hK' _ _ ⟨_, rfl, fun _ => rfl, g, fun k v h => h⟩
            | 2, ho =>
              simp at ho
              subst ho
              have h61 : a.tmps[61]?.getD undef = .pointer (some ⟨bx, 0, none⟩) := (eval_tmp a 61).symm.trans (hd ⟨1, .data⟩ (by simp) rfl _ _ rfl rfl)
              have c0 := g.cell 4 rfl 0 rfl
              refine wpOp_step (o := _) rfl ?_
              intro K' hK'
              rw [if_pos (by rfl)]
              go_simp
              exact hK' _ _ ⟨_, rfl, fun _ => rfl, g, fun k v h => h⟩
            | 3, ho =>
              simp at ho
              subst ho
              have h62 : a.tmps[62]?.getD undef = .int .i64 (z 0) := (eval_tmp a 62).symm.trans (hd ⟨2, .data⟩ (by simp) rfl _ _ rfl rfl)
              refine wpOp_step (o := _) rfl ?_
              intro K' hK'
              rw [if_pos (by rfl)]
              go_simp
              refine (WA _).mono ?_
              rintro e w' ⟨rfl, rfl⟩
              exact hK' _ _ ⟨_, rfl, fun _ => rfl, g, fun k v h => h⟩
            | 4, ho =>
              simp at ho
              subst ho
              obtain ⟨bq, e9, hc⟩ := hd ⟨0, .data⟩ (by simp) rfl _ _ rfl rfl
              have h60 := (eval_tmp a 60).symm.trans e9
              clear e9
              have h63 : a.tmps[63]?.getD undef = .int .i64 (ka : Int) := (eval_tmp a 63).symm.trans (hd ⟨3, .data⟩ (by simp) rfl _ _ rfl rfl)
              refine wpOp_step (o := _) rfl ?_
              intro K' hK'
              rw [if_pos (by rfl)]
              go_simp
              exact hK' _ _ ⟨_, rfl, fun _ => ⟨bq, rfl, hc⟩, g, fun k v h => h⟩
            | 5, ho =>
              simp at ho
              subst ho
              obtain ⟨bq, e9, hc⟩ := hd ⟨4, .data⟩ (by simp) rfl _ _ rfl rfl
              have h64 := (eval_tmp a 64).symm.trans e9
              clear e9
              refine wpOp_step (o := _) rfl ?_
              intro K' hK'
              rw [if_pos (by rfl)]
              go_simp
              exact hK' _ _ ⟨_, rfl, fun _ => rfl, g, fun k v h => h⟩
            | 6, ho =>
              simp at ho
              subst ho
              refine wpOp_step (o := _) rfl ?_
              intro K' hK'
              rw [if_pos (by rfl)]
              go_simp
              have B1 := B0.alloc (Nat.le_refl _) (.cells #[.string ⟨#[117]⟩, .string ⟨#[118]⟩] 9)
              exact hK' _ _ ⟨_, rfl, fun _ => ⟨_, rfl, hjb V⟩, g.below B1, fun k v h => croF_below B1 h⟩
            | 7, ho =>
              simp at ho
              subst ho
              have h10 : a.tmps[10]?.getD undef = .pointer (some ⟨bx, 0, none⟩) := (kp.at (t := 10) (by kernel_rfl)).trans rfl
              refine wpOp_step (o := _) rfl ?_
              intro K' hK'
              rw [if_pos (by rfl)]
              go_simp
              exact hK' _ _ ⟨_, rfl, fun _ => rfl, g, fun k v h => h⟩
            | 8, ho =>
              simp at ho
              subst ho
              have h67 : a.tmps[67]?.getD undef = .pointer (some ⟨bx, 1, none⟩) := (eval_tmp a 67).symm.trans (hd ⟨7, .data⟩ (by simp) rfl _ _ rfl rfl)
              have c1 := g.cell 4 rfl 1 rfl
              refine wpOp_step (o := _) rfl ?_
              intro K' hK'
              rw [if_pos (by rfl)]
              go_simp
              exact hK' _ _ ⟨_, rfl, fun _ => rfl, g, fun k v h => h⟩
            | 9, ho =>
              simp at ho
              subst ho
              have h68 : a.tmps[68]?.getD undef = .int .i64 (z 1) := (eval_tmp a 68).symm.trans (hd ⟨8, .data⟩ (by simp) rfl _ _ rfl rfl)
              refine wpOp_step (o := _) rfl ?_
              intro K' hK'
              rw [if_pos (by rfl)]
              go_simp
              refine (WB _).mono ?_
              rintro e w' ⟨rfl, rfl⟩
              exact hK' _ _ ⟨_, rfl, fun _ => rfl, g, fun k v h => h⟩
            | 10, ho =>
              simp at ho
              subst ho
              obtain ⟨bq, e9, hc⟩ := hd ⟨6, .data⟩ (by simp) rfl _ _ rfl rfl
              have h66 := (eval_tmp a 66).symm.trans e9
              clear e9
              have h69 : a.tmps[69]?.getD undef = .int .i64 (kb : Int) := (eval_tmp a 69).symm.trans (hd ⟨9, .data⟩ (by simp) rfl _ _ rfl rfl)
              refine wpOp_step (o := _) rfl ?_
              intro K' hK'
              rw [if_pos (by rfl)]
              go_simp
              exact hK' _ _ ⟨_, rfl, fun _ => ⟨bq, rfl, hc⟩, g, fun k v h => h⟩
            | 11, ho =>
              simp at ho
              subst ho
              obtain ⟨bq, e9, hc⟩ := hd ⟨10, .data⟩ (by simp) rfl _ _ rfl rfl
              have h70 := (eval_tmp a 70).symm.trans e9
              clear e9
              refine wpOp_step (o := _) rfl ?_
              intro K' hK'
              rw [if_pos (by rfl)]
              go_simp
              exact hK' _ _ ⟨_, rfl, fun _ => rfl, g, fun k v h => h⟩
            | 12, ho =>
              simp at ho
              subst ho
              have h65 : a.tmps[65]?.getD undef = .string sx := (eval_tmp a 65).symm.trans (hd ⟨5, .data⟩ (by simp) rfl _ _ rfl rfl)
              refine wpOp_step (o := _) rfl ?_
              intro K' hK'
              rw [if_pos (by rfl)]
              go_simp
              exact hK' _ _ ⟨_, rfl, fun _ => rfl, g, fun k v h => h⟩
            | 13, ho =>
              simp at ho
              subst ho
              have h71 : a.tmps[71]?.getD undef = .string sb := (eval_tmp a 71).symm.trans (hd ⟨11, .data⟩ (by simp) rfl _ _ rfl rfl)
              refine wpOp_step (o := _) rfl ?_
              intro K' hK'
              rw [if_pos (by rfl)]
              go_simp
              exact hK' _ _ ⟨_, rfl, fun _ => rfl, g, fun k v h => h⟩
            | k + 14, ho => exact absurd ho (by simp)
          · intro a' V g kp hf
            have h11 : a'.eval (.tmp 11) = .string sx := hf 12 _ 11 rfl rfl
            have h12 : a'.eval (.tmp 12) = .string sb := hf 13 _ 12 rfl rfl
            have ha := kp.act [60, 61, 62, 63, 64, 65, 66, 67, 68, 69, 70, 71, 11, 12] (by kernel_rfl)
            simp only [layAll, List.foldl_cons, List.foldl_nil, h11, h12] at ha
            clear kp hf h11 h12 hja hjb WA WB
            generalize a'.eval (.tmp 60) = s60 at ha
            generalize a'.eval (.tmp 61) = s61 at ha
            generalize a'.eval (.tmp 62) = s62 at ha
            generalize a'.eval (.tmp 63) = s63 at ha
            generalize a'.eval (.tmp 64) = s64 at ha
            generalize a'.eval (.tmp 65) = s65 at ha
            generalize a'.eval (.tmp 66) = s66 at ha
            generalize a'.eval (.tmp 67) = s67 at ha
            generalize a'.eval (.tmp 68) = s68 at ha
            generalize a'.eval (.tmp 69) = s69 at ha
            generalize a'.eval (.tmp 70) = s70 at ha
            generalize a'.eval (.tmp 71) = s71 at ha
            simp only [Act.put, List.setIfInBounds_toArray, List.set_cons_succ, List.set_cons_zero] at ha
            subst ha
            refine ‹∀ (a : Act) (w : World), Code.wp _ _ _ a w → _› _ _ ?_
            clear E5
            clear W
            have q2 := g.cell 4 rfl 2 rfl
            go_wp2_with fail
            refine (within_calls (z 2) 1000 _ (by omega) (by omega)).mono ?_
            rintro e w' ⟨rfl, rfl⟩
            go_wp2_with fail
            refine (Crs.add Sb g 1 rfl _ _ _ HB.out).mono ?_
            rintro e w8 ⟨gb', rfl, Sb', E8⟩
            have E9 := E8.drop 4
            simp at E9
            clear E8 q2 g
            go_wp2
            go_roundw
            case rel => exact ⟨ga, gb', gm, la', qb, ms, .inr (.inr ⟨rfl, Ta, Tb', TM⟩), Sa, Sb', M, E9⟩
            case measure => simp [intOf]
        · have E9 := E.drop 3
          simp at E9
          go_wp2
          go_roundw
          case rel => exact ⟨j + 1, ga, gb, gm, la', lb', ms, by omega, by go_num, Sa, Sb, M, Ta, Tb, TM, E9⟩
          case measure => simp [intOf]; omega
    · obtain rfl : j = n := by omega
      have hZt : Z.take j = Z := List.take_of_length_le (by rw [HZL.out]; exact Nat.le_refl _)
      have hZr : Z.reverse.take j = Z.reverse := List.take_of_length_le (by rw [List.length_reverse, HZL.out]; exact Nat.le_refl _)
      rw [hZt] at Ta TM
      rw [hZr] at Tb
      clear hZt hZr hlt
      have hlab : lb = la := Tb.same Ta fun k => tot_rev k Z
      subst hlab
      obtain ⟨es, clock, rfl, HE⟩ := M
      have hcnt := (cntV_ents HE).trans (Ta.count HE.dist TM.acc)
      have hl8 := Ta.good.len
      have HACC : Hid (∀ x ∈ lb, accP (x.s, x.b) ms = x.amt ∧ 1 ≤ x.amt ∧ x.amt ≤ 100000000000) := fun x hx => by
        have h1 := (mem_hasP Ta.good x).1 hx
        have h2 := Ta.has (x.s, x.b)
        exact ⟨by rw [TM.acc, ← h2]; exact h1.1, Ta.good.amt x hx⟩
      have HNX : Hid (∀ (i j : Nat), i < j → ∀ x y : SPair, lb[i]? = some x → lb[j]? = some y → cmpS x.s y.s = -1 ∨ x.s = y.s ∧ cmpS x.b y.b = -1) := fun i j h x y hx hy => Ta.next h hx hy
      clear HXZ HZL Tb Ta TM
      generalize hln : lb.length = ln at *
      have HLN := Lib.hid hln
      clear hln
      go_wp2_with fail
      refine (Crs.rows Sa E 0 rfl ln HLN.out).mono ?_
      rintro e w3 ⟨C3, n3, h3, rfl, o3, E3⟩
      simp at E3
      go_wp2_with fail
      refine (Crs.rows Sb E3 1 rfl ln HLN.out).mono ?_
      rintro e w4 ⟨C4, n4, h4, rfl, o4, E4⟩
      simp at E4
      go_wp2_with fail
      have SC := fun (W : World) (k1 k2 : Hp) (X Y : Option Addr) (cx cy : Nat) (s1 : k1.sub W) (s2 : k2.sub W) (x1 : Sl kPair k1 X cx lb) (x2 : Sl kPair k2 Y cy lb) => same_crow X Y cx cy lb lb k1 k2 W s1 s2 x1 x2
      rw [eqB_t rfl, HLN.out] at SC
      refine (SC _ _ _ _ _ _ _ (E4.sub 3 rfl) (E4.sub 4 rfl) o3.sl o4.sl).mono ?_
      rintro e w5 ⟨rfl, B5⟩
      have E5 := (E4.below B5).drop 4
      simp at E5
      clear E3 E4 B5 o4 E
      go_upto_region 26 with fail
      have hrange := run_range_map (P := Try.prog) w5 53 _ _ bm es clock Try.underlying53 (E5.sub 2 rfl bm _ (Hp.one_self _ _))
      have E6 := E5.alloc (.mapIter (some bm) clock #[] clock)
      simp at E6
      generalize w5.alloc (.mapIter (some bm) clock #[] clock) = w6 at *
      generalize w5.heap.size = r at *
      go_wp2_with (refine wpList_range_run _ rfl _ _ rfl _ rfl _ _ hrange ?_)
      clear hrange E5
      go_frame
      go_loopw [15] (fun s wr => ∃ (seen : Array Nat) (c : Nat), s = .int .i64 c ∧ c + cntV (leftOf es seen).toList = ln ∧ Env w wr [ga, gb, Hp.one bm (.map es clock), h3, Hp.one r (.mapIter (some bm) clock seen clock)]) (fun _ wr => wr.rangeLeft bm r)
      case atStart => exact ⟨#[], 0, rfl, by rw [left_all]; omega, E6⟩
      case round =>
        clear E6
        obtain ⟨seen, c, rfl, hc, E⟩ := hrel
        have hml : ∀ (W : World) (sn : Array Nat), Env w W [ga, gb, Hp.one bm (.map es clock), h3, Hp.one r (.mapIter (some bm) clock sn clock)] → W.rangeLeft bm r = (leftOf es sn).size := fun W sn E => by
          have e1 := E.sub 2 rfl bm _ (Hp.one_self _ _)
          have e2 := E.sub 4 rfl r _ (Hp.one_self _ _)
          simp only [World.rangeLeft, e1, e2]
        rcases next_env (P := Try.prog) E 4 2 (by decide) rfl rfl HE.st 0 with ⟨h0, hnx⟩ | ⟨en, W', hmem, hnx, E', hen⟩
        · have hc0 := cntV_none h0
          obtain rfl : ln = c := by omega
          clear hml hc hc0 h0
          have E7 := E.drop 4
          simp at E7
          clear E
          go_wp2_with (refine wpList_next_run _ rfl _ rfl _ rfl _ _ hnx ?_)
          clear hnx
          go_loopw [112] (fun i wr => ∃ (j : Nat), j ≤ ln ∧ i = .int .i64 j ∧ Env w wr [ga, gb, Hp.one bm (.map es clock), h3]) (fun i _ => ln - (intOf i).toNat)
          case atStart => exact ⟨0, by omega, rfl, E7⟩
          case round =>
            clear E7
            obtain ⟨j, hj, rfl, E⟩ := hrel
            by_cases hlt : j < ln
            · obtain ⟨x, hx⟩ := some_of_lt (show j < lb.length by rw [HLN.out]; exact hlt)
              obtain ⟨b1, off1, rfl, c1, c2, c3⟩ := o3.sl.pair (E.sub 3 rfl) hx
              obtain ⟨hac, ha1, ha2⟩ := HACC.out x (List.mem_of_getElem? hx.out)
              have i1 : (0 : Int) ≤ (j : Int) := by omega
              have i2 : (j : Int) < (ln : Int) := by omega
              have EA := E.alloc (.cells #[.string x.s, .string x.b, .int .i64 x.amt] 27)
              simp at EA
              obtain ⟨WA, hWA⟩ : ∃ WA, WA = wr.alloc (.cells #[.string x.s, .string x.b, .int .i64 x.amt] 27) := ⟨_, rfl⟩
              go_upto_region 34 with fail
              rw [← hWA] at EA
              rw [← hWA]
              clear hWA c1 c2 c3
              generalize wr.heap.size = q at *
              have g0 := EA.cell 4 rfl 0 rfl
              have g1 := EA.cell 4 rfl 1 rfl
              have g2 := EA.cell 4 rfl 2 rfl
              have hkx : okK (x.s, x.b) := HE.okK_acc (by omega)
              have hlook := fun n : Nat => HE.look pairLaw pairKey Try.underlying53 (zeroInt' _) ((EA.drewN n).sub 2 rfl bm _ (Hp.one_self _ _)) (x.s, x.b) hkx
              simp only [kvP, hac] at hlook
              have z0 : (x.amt == 0) = false := by simp; omega
              clear hac ha1 ha2 hkx
              by_cases h0 : j = 0
              · have t0 : decide ((0 : Int) < (j : Int)) = false := by simp [h0]
                subst h0
                go_quiet (fail)
                have EB := (EA.drewN nq).drop 4
                simp at EB
                clear EA g0 g1 g2 hlook
                go_wp2
                go_roundw
                case rel => exact ⟨1, by omega, by rfl, EB⟩
                case measure => simp [intOf]; omega
              · obtain ⟨m, hm'⟩ : ∃ m : Nat, ((j : Int) - 1).toNat = m := ⟨_, rfl⟩
                obtain ⟨y, hy⟩ := some_of_lt (show m < lb.length by rw [HLN.out]; omega)
                obtain ⟨b1', off1', e1, c1, c2, c3⟩ := o3.sl.pair (EA.sub 3 rfl) hy
                cases e1
                have hyx := HNX.out m j (by omega) y x hy.out hx.out
                have j1 : 1 ≤ (j : Int) := by omega
                have j2 : (j : Int) ≤ (ln : Int) := by omega
                have j3 : (0 : Int) < (j : Int) := by omega
                have j4 : 0 < j := by omega
                have hw := cmpS_swap y.s x.s
                rcases hyx with hyx | ⟨hs, hyx⟩
                · have s1 : Op.bytesLess x.s.toList y.s.toList = false := by rw [blS]; simp; omega
                  have s2 : (x.s.toList == y.s.toList) = false := beq_eq_false_iff_ne.2 fun e => by
                    rw [tl_inj e, cmpS_self] at hyx; omega
                  clear hyx hw
                  go_quiet (fail)
                  have EB := (EA.drewN nq).drop 4
                  simp at EB
                  clear EA g0 g1 g2 hlook c1 c2 c3
                  go_wp2
                  go_roundw
                  case rel => exact ⟨j + 1, by omega, by go_num, EB⟩
                  case measure => simp [intOf]; omega
                · have s1 : Op.bytesLess x.s.toList y.s.toList = false := by rw [blS, hs, cmpS_self]; rfl
                  have s2 : (x.s.toList == y.s.toList) = true := by rw [hs]; simp
                  have hw2 := cmpS_swap y.b x.b
                  have s3 : Op.bytesLess x.b.toList y.b.toList = false := by rw [blS]; simp; omega
                  have s4 : (x.b.toList == y.b.toList) = false := beq_eq_false_iff_ne.2 fun e => by
                    rw [tl_inj e, cmpS_self] at hyx; omega
                  clear hw2
                  clear hyx hw hs
                  go_quiet (fail)
                  have EB := (EA.drewN nq).drop 4
                  simp at EB
                  clear EA g0 g1 g2 hlook c1 c2 c3
                  go_wp2
                  go_roundw
                  case rel => exact ⟨j + 1, by omega, by go_num, EB⟩
                  case measure => simp [intOf]; omega
            · obtain rfl : ln = j := by omega
              clear hlt
              go_wp2_with fail
              go_loopw [172] (fun i wr => ∃ (j : Nat) (zs : List SPair) (hz : Hp), j ≤ ln ∧ i = .int .i64 j ∧ Hid (zs = (lb.take j).map incP ++ lb.drop j) ∧ Hid (zs.length = ln) ∧ Ow kPair hz C3 n3 zs ∧ Env w wr [ga, gb, Hp.one bm (.map es clock), hz]) (fun i _ => ln - (intOf i).toNat)
              case atStart => exact ⟨0, lb, h3, by omega, rfl, rfl, HLN, o3, E⟩
              case round =>
                clear E o3
                obtain ⟨j, zs, hz, hj, rfl, hzz, hzl, oz, E⟩ := hrel
                by_cases hlt : j < ln
                · obtain ⟨x, hx⟩ := some_of_lt (show j < lb.length by rw [HLN.out]; exact hlt)
                  have hzx : Hid (zs[j]? = some x) := by unfold Hid; rw [hzz.out, map_get_step]; exact hx.out
                  obtain ⟨b1, off1, rfl, c1, c2, c3⟩ := oz.sl.pair (E.sub 3 rfl) hzx
                  have hfz := oz.cell_free (E.sub 3 rfl) (lt_of_some hzx.out)
                  obtain ⟨_, ha1, ha2⟩ := HACC.out x (List.mem_of_getElem? hx.out)
                  have hwr : IntKind.i64.wrap (x.amt + 1) = x.amt + 1 := by rw [IntKind.wrap_i64]; omega
                  have i1 : (0 : Int) ≤ (j : Int) := by omega
                  have i2 : (j : Int) < (ln : Int) := by omega
                  obtain ⟨hv, ov, uv⟩ := Ow.set (x' := incP x) (v := .int .i64 (x.amt + 1)) (j := 2) oz (E.sub 3 rfl) hzx.out (by decide) rfl
                  have EV := E.upd 3 rfl uv
                  simp at EV
                  clear uv ha1 ha2
                  go_wp2
                  go_roundw
                  case rel => exact ⟨j + 1, zs.set j (incP x), hv, by omega, by go_num, by unfold Hid; rw [hzz.out, map_set_step _ _ _ _ hx.out], by unfold Hid; rw [List.length_set]; exact hzl.out, ov, EV⟩
                  case measure => simp [intOf]; omega
                · obtain rfl : ln = j := by omega
                  clear hlt
                  go_wp2_with fail
                  refine (Crs.rows Sa E 0 rfl ln HLN.out).mono ?_
                  rintro e w8 ⟨C8, n8, h8, rfl, o8, E8⟩
                  simp at E8
                  go_wp2_with fail
                  refine (Crs.rows Sb E8 1 rfl ln HLN.out).mono ?_
                  rintro e w9 ⟨C9, n9, h9, rfl, o9, E9⟩
                  simp at E9
                  go_wp2_with fail
                  refine (SC _ _ _ _ _ _ _ (E9.sub 4 rfl) (E9.sub 5 rfl) o8.sl o9.sl).mono ?_
                  rintro e w10 ⟨rfl, B10⟩
                  have E10 := E9.below B10
                  go_wp2_with fail
                  refine (wakes24 _).mono ?_
                  rintro e w11 ⟨rfl, B11⟩
                  go_wp2
                  go_ret
                  exact ⟨rfl, (E10.below B11).low⟩
        · obtain ⟨idx, hidx⟩ := List.getElem?_of_mem (mem_left hmem).1
          obtain ⟨rr, hr, ek, ev⟩ := HE.get hidx
          have hst := cntV_strike (left_nodup HE.st seen) hmem
          rw [← left_push] at hst
          have hsh := left_shrinks es seen en hmem
          rw [ev] at hst
          rw [ek, ev] at hnx hen
          simp only [List.set_cons_zero, List.set_cons_succ] at E'
          have hm1 := hml _ _ E
          have hm2 := hml _ _ E'
          clear hml hmem hidx hr ek ev
          generalize rr.2 = vv at *
          generalize kvP rr.1 = kk at *
          by_cases hv : vv = 0
          · have t0 : (vv != 0) = false := by simp [hv]
            have hn0 : nzV (.int .i64 vv) = false := by simp [nzV, hv]
            rw [hn0] at hst
            clear hv hn0
            simp only [Bool.false_eq_true, if_false] at hst
            go_wp2_with (refine wpList_next_run _ rfl _ rfl _ rfl _ _ hnx ?_)
            go_roundw
            case rel => exact ⟨seen.push en.born, c, rfl, by omega, E'⟩
            case measure => rw [hm1, hm2]; exact hsh
          · have t0 : (vv != 0) = true := by simpa using hv
            have hn0 : nzV (.int .i64 vv) = true := by simp [nzV, hv]
            rw [hn0] at hst
            clear hv hn0
            simp only [if_true] at hst
            go_wp2_with (refine wpList_next_run _ rfl _ rfl _ rfl _ _ hnx ?_)
            go_roundw
            case rel => exact ⟨seen.push en.born, c + 1, by go_num, by omega, E'⟩
            case measure => rw [hm1, hm2]; exact hsh
end Go.Proofs.Ytdcfojohgcmpcaa
end
