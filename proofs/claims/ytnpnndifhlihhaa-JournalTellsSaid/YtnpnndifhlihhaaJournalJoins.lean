/- The walk of the law JournalJoins. -/
import Derived.Test.YtnpnndifhlihhaaSome
import Derived.Test.YtnpnndifhlihhaaWakes06
namespace Go.Sl
theorem Fine.join_few {x y : List SItem} (f : Fine x) (g : Fine y) : fewB (x ++ y) = true :=
  few_of (by have := f.len; have := g.len; simp; omega) (fun z hz => by
    rcases List.mem_append.1 hz with hz | hz
    · exact f.money z hz
    · exact g.money z hz)
theorem Fine.join_acc {x y : List SItem} (f : Fine x) (g : Fine y) : AccMoney (x ++ y) := fun a _ _ => by
  have := f.acc a; have := g.acc a; rw [accSum_append]; simp [Sl.money]; omega
theorem merge_few {z : List SItem} (h : AccMoney z) : fewB (merge z) = true :=
  few_of (by have := mergeTo_len z 7; unfold merge; omega) (fun x hx => by have := mergeTo_mem hx; rw [this.2.2.1]; exact h _ (by omega) (by omega))
end Go.Sl
namespace Go.Proofs.Ytnpnndifhlihhaa
open Go.RowKit Go.Sl
set_option maxHeartbeats 400000
set_option maxRecDepth 100000
theorem journalJoins_calls (A B D : Option Addr) (ca cb cd : Nat) (ks zs bs : List Int) (hA hB hD : Hp) (w : World) (sA : hA.sub w) (sB : hB.sub w) (sD : hD.sub w) (s1 : Sl kInt hA A ca ks) (s2 : Sl kInt hB B cb zs) (s3 : Sl kInt hD D cd bs)
    (w2 : ∀ n ∈ zs, I64 n) (w3 : ∀ n ∈ bs, I64 n) :
    Calls Try.prog 5 #[.slice A ks.length ca, .slice B zs.length cb, .slice D bs.length cd] w fun e w' => e = .returned (.bool true) ∧ Below w.heap.size w w' := by
  obtain ⟨i0, hi, hz0, hz1, hz2⟩ := info_parts Try.infoLine
  have R1 := someKeep_calls A B ca cb ks zs 0 9 hA hB w sA sB s1 s2 w2 (by decide)
  have R2 := fun W (hW : Below w.heap.size w W) => someKeep_calls A D ca cd ks bs 0 9 hA hD W (sA.of_below hW) (sD.of_below hW) s1 s3 w3 (by decide)
  have fx := right_fine ks zs
  have fy := right_fine ks bs
  generalize rightL ks zs = x at *
  generalize rightL ks bs = y at *
  have lx := fx.len
  have ly := fy.len
  have hm1 : Hid (mergeF (x ++ y) = merge (x ++ y)) := by unfold Hid mergeF; rw [if_pos (fx.join_few fy)]
  have hm2 : Hid (mergeF (y ++ x) = merge (x ++ y)) := by unfold Hid mergeF; rw [if_pos (fy.join_few fx), merge_comm]
  have hck : Hid (checkE (merge (x ++ y)) = 0) := by
    unfold Hid checkE
    rw [if_pos (check_merge (fx.join_acc fy) (kinds7_append fx.kinds fy.kinds) (by have h1 := fx.zero; have h2 := fy.zero; unfold sumAmt at *; simp; omega))]
  have hnet : Hid (∀ k : Int, 1 ≤ k → k ≤ 7 → netF (merge (x ++ y)) k = netF x k + netF y k) := by
    intro k h1 h7
    unfold netF
    rw [if_pos (merge_few (fx.join_acc fy)), if_pos fx.few, if_pos fy.few, accSum_merge h1 h7, accSum_append]
  have hb1 : Hid (∀ k : Int, -700000000 ≤ netF x k ∧ netF x k ≤ 700000000) := fun k => by unfold netF; rw [if_pos fx.few]; exact fx.acc k
  have hb2 : Hid (∀ k : Int, -700000000 ≤ netF y k ∧ netF y k ≤ 700000000) := fun k => by unfold netF; rw [if_pos fy.few]; exact fy.acc k
  have hlm : (merge (x ++ y)).length ≤ 7 := mergeTo_len (x ++ y) 7
  go_enter Try.func5, Try.ntmps5
  go_wp2_with fail
  refine R1.mono ?_
  rintro e v1 ⟨C1, c1, h1, rfl, o1, u1⟩
  go_wp2_with fail
  refine (R2 v1 u1.below).mono ?_
  rintro e v2 ⟨C2, c2, h2, rfl, o2, u2⟩
  have n1 := u1.sub.of_below u2.below
  go_wp2_with fail
  refine (copy_line C1 c1 x h1 v2 n1 o1.sl (by omega)).mono ?_
  rintro e v3 ⟨C3, c3, h3, rfl, o3, u3⟩
  have n2 := u2.sub.of_below u3.below
  go_wp2_with (at_builtin; refine wpList_append (k := kItem) (h := h3) (hx := Hp.none) (A := C3) (cap := c3) (B := C2) (xs := x) (ys := y) (by rfl) (.tmp 18) (.tmp 19) 36 (by rfl) 39 i0 (.agg #[.int .i64 0, .int .i64 0]) Try.underlying36 hi hz0 hz1 (by rfl) 16 hz2 x.length y.length c2 rfl rfl (by rfl) (by rfl) o3 u3.sub ((o2.sl.src n2).flat kItem_flat _) (Hp.none_sub _) (Hp.apart_none _) (by unfold maxLen; omega) (by omega) ?_; intro C4 c4 v4 h4 o4 u4)
  have U4 := u3.trans u4.flat
  have M1 := mergeF_calls C4 c4 (x ++ y) h4 v4 u4.sub o4.sl
  rw [List.length_append, hm1.out] at M1
  refine M1.mono ?_
  rintro e v5 ⟨C5, c5, h5, rfl, o5, u5⟩
  have b25 : Below v2.heap.size v2 v5 := U4.below.trans (u5.below.mono U4.size)
  have n1 := n1.of_below b25
  have n2 := u2.sub.of_below b25
  generalize merge (x ++ y) = m at *
  have b05 : Below w.heap.size w v5 := u1.below.trans ((u2.below.trans (b25.mono u2.size)).mono u1.size)
  have K := check_calls C5 c5 m h5 v5 u5.sub o5.sl
  rw [hck.out] at K
  go_wp2_with (go_at_call 21; refine K.mono ?_; rintro e v6 ⟨rfl, b6⟩)
  go_loopw [10] (fun i wr => ∃ (j : Nat), j ≤ 7 ∧ i = .int .i64 ((j : Int) + 1) ∧ Below v5.heap.size v5 wr) (fun i _ => 8 - (intOf i).toNat)
  case atStart => exact ⟨0, by omega, rfl, b6⟩
  case round =>
    obtain ⟨j, hj, rfl, hb⟩ := hrel
    by_cases hlt : j < 7
    · have i1 : (j : Int) + 1 ≤ 7 := by omega
      have hn := Lib.hid (hnet.out ((j : Int) + 1) (by omega) (by omega))
      obtain ⟨q1, q2⟩ := hb1.out ((j : Int) + 1)
      obtain ⟨q3, q4⟩ := hb2.out ((j : Int) + 1)
      have N1 := net_calls C5 c5 m ((j : Int) + 1) h5 wr (u5.sub.of_below hb) o5.sl
      have N2 := fun W (hW : Below wr.heap.size wr W) => net_calls C1 c1 x ((j : Int) + 1) h1 W ((n1.of_below hb).of_below hW) o1.sl
      have N3 := fun W (hW : Below wr.heap.size wr W) => net_calls C2 c2 y ((j : Int) + 1) h2 W ((n2.of_below hb).of_below hW) o2.sl
      rw [hn.out] at N1
      generalize netF x ((j : Int) + 1) = p at *
      generalize netF y ((j : Int) + 1) = q at *
      go_wp2_with fail
      refine N1.mono ?_
      rintro e z1 ⟨rfl, t1⟩
      go_wp2_with fail
      refine (N2 z1 t1).mono ?_
      rintro e z2 ⟨rfl, t2⟩
      have t12 := t1.trans (t2.mono t1.size)
      go_wp2_with fail
      refine (N3 z2 t12).mono ?_
      rintro e z3 ⟨rfl, t3⟩
      go_wp2
      go_roundw
      case rel => exact ⟨j + 1, by omega, by go_num, hb.trans ((t12.trans (t3.mono t12.size)).mono hb.size)⟩
      case measure => simp [intOf]; omega
    · obtain rfl : j = 7 := by omega
      go_wp2_with fail
      refine (copy_line C2 c2 y h2 wr (n2.of_below hb) o2.sl (by omega)).mono ?_
      rintro e v7 ⟨C7, c7, h7, rfl, o7, u7⟩
      have n17 := (n1.of_below hb).of_below u7.below
      go_wp2_with (at_builtin; refine wpList_append (k := kItem) (h := h7) (hx := Hp.none) (A := C7) (cap := c7) (B := C1) (xs := y) (ys := x) (by rfl) (.tmp 42) (.tmp 43) 36 (by rfl) 39 i0 (.agg #[.int .i64 0, .int .i64 0]) Try.underlying36 hi hz0 hz1 (by rfl) 16 hz2 y.length x.length c1 rfl rfl (by rfl) (by rfl) o7 u7.sub ((o1.sl.src n17).flat kItem_flat _) (Hp.none_sub _) (Hp.apart_none _) (by unfold maxLen; omega) (by omega) ?_; intro C8 c8 v8 h8 o8 u8)
      have U8 := u7.trans u8.flat
      have M2 := mergeF_calls C8 c8 (y ++ x) h8 v8 u8.sub o8.sl
      rw [List.length_append, hm2.out] at M2
      refine M2.mono ?_
      rintro e v9 ⟨C9, c9, h9, rfl, o9, u9⟩
      have b79 : Below wr.heap.size wr v9 := U8.below.trans (u9.below.mono U8.size)
      have S := same_line C5 C9 c5 c9 m m h5 h9 v9 ((u5.sub.of_below hb).of_below b79) u9.sub o5.sl o9.sl
      rw [eqB_t rfl] at S
      go_wp2_with (first | (go_at_call 27; refine S.mono ?_; rintro e v10 ⟨rfl, b10⟩) | (go_at_call 22; refine (wakes06 _).mono ?_; rintro e v11 ⟨rfl, b11⟩))
      go_ret
      have t1 := hb.trans (b79.mono hb.size)
      have t2 := t1.trans (b10.mono t1.size)
      have t3 := t2.trans (b11.mono t2.size)
      exact ⟨rfl, b05.trans (t3.mono b05.size)⟩
end Go.Proofs.Ytnpnndifhlihhaa
