/- Walks and plain facts that the laws of this seat share, part 3: contracts of functions, each said at its theorem. -/
import Derived.Test.YtnfedcaehkcffaaGreatPk2
import Derived.BigRegion
set_option linter.all false
section
/- Plain facts of lists and registers, a register's own struct. No program is named here. -/
namespace Go.Sl
open Go Go.RowKit
theorem find_hit {κ α : Type} [DecidableEq κ] {key : α → κ} {k : κ} {l : List α} {j : Nat} {x : α} (h : ∀ y ∈ l.take j, key y ≠ k) (hx : l[j]? = some x) (hk : key x = k) : find key k l = some x := by
  have hj := List.getElem?_eq_some_iff.1 hx
  have e : l = l.take j ++ x :: l.drop (j + 1) := by
    have := List.take_append_drop j l
    rw [List.drop_eq_getElem_cons hj.1, hj.2] at this; exact this.symm
  unfold find
  rw [e, List.find?_append]
  have h2 : (l.take j).find? (fun y => decide (key y = k)) = none := by
    rw [List.find?_eq_none]; intro y hy; simpa using h y hy
  rw [h2]; simp [hk]
theorem find_miss {κ α : Type} [DecidableEq κ] {key : α → κ} {k : κ} {l : List α} (h : ∀ y ∈ l, key y ≠ k) : find key k l = none := by
  unfold find; rw [List.find?_eq_none]; intro y hy; simpa using h y hy
theorem drop_next {α : Type} {xs : List α} {i : Nat} {x : α} (h : Hid (xs[i]? = some x)) : xs.drop i = x :: xs.drop (i + 1) := by
  have h2 := List.getElem?_eq_some_iff.1 h.out
  rw [List.drop_eq_getElem_cons h2.1, h2.2]
/-- A register's own struct. -/
def kReg : Kd (List STri) where
  size := 1
  K h l cs := ∃ A cap, cs = [.slice A l.length cap] ∧ Ow kTri h A cap l
  pos := by decide
  len := by rintro h x cs ⟨A, cap, rfl, _⟩; rfl
  one := by rintro h x cs ⟨A, cap, rfl, _⟩ u hu; simp at hu; subst hu; rfl
  mono := by rintro h h' x cs ⟨A, cap, e, s⟩ l; exact ⟨A, cap, e, s.mono l⟩
theorem Pt.reg {T : TypeId} {h : Hp} {b : Nat} {l : List STri} {w : World} (p : Pt kReg T h b l) (s : h.sub w) : ∃ A ca, w.cell? ⟨b, 0, none⟩ = some (.slice A l.length ca) ∧ Sl kTri h A ca l := by
  obtain ⟨cs, hb, A, ca, rfl, ow⟩ := p
  exact ⟨A, ca, by rw [cell_of_row w b 0 _ _ _ (s b _ hb)]; rfl, ow.sl.mono (Hp.del_le _ _)⟩
theorem sumC_snoc (l : List STri) (x : STri) : sumC (l ++ [x]) = sumC l + x.c := by simp [sumC]
end Go.Sl
end
section
/- The walk of ref01.Money. -/
namespace Go.Proofs.YtnfedcaehkcffaaGreat
open Go.RowKit Go.Sl
set_option maxHeartbeats 400000
theorem refMoney_calls (n : Int) (w : World) : Calls Tryz.prog 77 #[.int .i64 n] w fun e w' => e = .returned (.bool (money n)) ∧ w = w' := by
  go_enter Tryz.func77, Tryz.ntmps77
  go_wp2
  all_goals
    go_ret
    exact ⟨by simp [money]; omega, rfl⟩
end Go.Proofs.YtnfedcaehkcffaaGreat
end
section
/- What the type table says of api.Bucket. -/
namespace Go.Proofs.YtnfedcaehkcffaaGreat
open Go.RowKit Go.Sl
set_option maxHeartbeats 1000000
set_option maxRecDepth 100000
theorem info_bucket : Info Tryz.prog 97 (.agg #[.int .i64 0, .int .i64 0, .int .i64 0]) 3 24 := by unfold Info; kernel_rfl
end Go.Proofs.YtnfedcaehkcffaaGreat
end
section
/- The walks of the reference's register: Get, Total, set. -/
namespace Go.Proofs.YtnfedcaehkcffaaGreat
open Go.RowKit Go.Sl
set_option maxHeartbeats 1000000
set_option maxRecDepth 100000
theorem refGet_calls (p : Nat) (A : Option Addr) (ca : Nat) (l : List STri) (c y : Int) (h : Hp) (w : World) (hs : h.sub w) (hc : w.cell? ⟨p, 0, none⟩ = some (.slice A l.length ca)) (sx : Sl kTri h A ca l) :
    Calls Tryz.prog 78 #[.pointer (some ⟨p, 0, none⟩), .int .i64 c, .int .i64 y] w fun e w' => e = .returned (.int .i64 (getB l c y)) ∧ Below w.heap.size w w' := by
  have m1 := sx.small
  go_enter Tryz.func78, Tryz.ntmps78
  go_wp2
  go_loopw [14] (fun i wr => ∃ (j : Nat), j ≤ l.length ∧ i = .int .i64 j ∧ Hid (∀ z ∈ l.take j, rkey z ≠ (c, y)) ∧ Below w.heap.size w wr) (fun i _ => l.length - (intOf i).toNat)
  case atStart => exact ⟨0, by omega, rfl, by unfold Hid; simp, Below.refl _ _⟩
  case round =>
    obtain ⟨j, hj, rfl, hn, hb⟩ := hrel
    by_cases hlt : j < l.length
    · obtain ⟨x, hx⟩ := some_of_lt hlt
      obtain ⟨b1, o1, rfl, c1, c2, c3⟩ := sx.tri (hs.of_below hb) hx
      have i1 : (0 : Int) ≤ (j : Int) := by omega
      have i2 : (j : Int) < (l.length : Int) := by omega
      have HN : rkey x ≠ (c, y) → Hid (∀ z ∈ l.take (j + 1), rkey z ≠ (c, y)) := fun h z hz => by
        rw [take_next hx] at hz
        rcases List.mem_append.1 hz with hz | hz
        · exact hn.out z hz
        · simp at hz; rw [hz]; exact h
      by_cases ha : x.a = c
      · by_cases hbb : x.b = y
        · have HF : Hid (getB l c y = x.c) := by
            unfold Hid getB; rw [find_hit hn.out hx.out (by simp [rkey, ha, hbb])]
          have t1 : (x.a == c) = true := by simpa using ha
          have t2 : (x.b == y) = true := by simpa using hbb
          clear ha hbb HN
          go_wp2
          go_ret
          exact ⟨by rw [HF.out]; rfl, hb.alloc hb.size _⟩
        · have HN' := HN (by simp [rkey, hbb])
          have t1 : (x.a == c) = true := by simpa using ha
          have t2 : (x.b == y) = false := by simpa using hbb
          clear ha hbb HN
          go_wp2
          go_roundw
          case rel => exact ⟨j + 1, by omega, by go_num, HN', hb.alloc hb.size _⟩
          case measure => simp [intOf]; omega
      · have HN' := HN (by simp [rkey, ha])
        have t1 : (x.a == c) = false := by simpa using ha
        clear ha HN
        go_wp2
        go_roundw
        case rel => exact ⟨j + 1, by omega, by go_num, HN', hb.alloc hb.size _⟩
        case measure => simp [intOf]; omega
    · have HF : Hid (getB l c y = 0) := by
        unfold Hid getB; rw [find_miss fun z hz => hn.out z (by rw [List.take_of_length_le (by omega)]; exact hz)]
      go_wp2
      go_ret
      exact ⟨by rw [HF.out]; rfl, hb⟩
theorem refTotal_calls (p : Nat) (A : Option Addr) (ca : Nat) (l : List STri) (h : Hp) (w : World) (hs : h.sub w) (hc : w.cell? ⟨p, 0, none⟩ = some (.slice A l.length ca)) (sx : Sl kTri h A ca l) (hl : l.length ≤ 1000) (hm : ∀ b ∈ l, -100000000000 ≤ b.c ∧ b.c ≤ 100000000000) :
    Calls Tryz.prog 79 #[.pointer (some ⟨p, 0, none⟩)] w fun e w' => e = .returned (.int .i64 (sumC l)) ∧ Below w.heap.size w w' := by
  have m1 := sx.small
  have HM := Lib.hid hm
  clear hm
  go_enter Tryz.func79, Tryz.ntmps79
  go_wp2
  go_loopw [3, 11] (fun s i wr => ∃ (j : Nat), j ≤ l.length ∧ i = .int .i64 j ∧ s = .int .i64 (sumC (l.take j)) ∧ Below w.heap.size w wr) (fun _ i _ => l.length - (intOf i).toNat)
  case atStart => exact ⟨0, by omega, rfl, rfl, Below.refl _ _⟩
  case round =>
    obtain ⟨j, hj, rfl, rfl, hb⟩ := hrel
    by_cases hlt : j < l.length
    · obtain ⟨x, hx⟩ := some_of_lt hlt
      obtain ⟨b1, o1, rfl, c1, c2, c3⟩ := sx.tri (hs.of_below hb) hx
      have i1 : (0 : Int) ≤ (j : Int) := by omega
      have i2 : (j : Int) < (l.length : Int) := by omega
      have q1 := HM.out x (List.mem_of_getElem? hx.out)
      have q2 := sumC_bd (m := 100000000000) (by omega) (l.take j) fun b hb => HM.out b (List.mem_of_mem_take hb)
      rw [List.length_take] at q2
      obtain ⟨q3, q4⟩ : -1000000000000000 ≤ sumC (l.take j) ∧ sumC (l.take j) ≤ 1000000000000000 := by omega
      clear q2
      have HT : Hid (sumC (l.take (j + 1)) = sumC (l.take j) + x.c) := by unfold Hid; rw [take_next hx, sumC_snoc]
      go_wp2
      go_roundw
      case rel => exact ⟨j + 1, by omega, by go_num, by rw [HT.out], hb.alloc hb.size _⟩
      case measure => simp [intOf]; omega
    · obtain rfl : j = l.length := by omega
      rw [List.take_length]
      go_wp2
      go_ret
      exact ⟨rfl, hb⟩
theorem refBucket_calls (c y : Int) (w : World) : Calls Tryz.prog 76 #[.int .i64 c, .int .i64 y] w fun e w' => e = .returned (.bool (bucketOk c y)) ∧ w = w' := by
  have Y : ∀ (y : Int) (w : World), Calls Tryz.prog 131 #[.int .i64 y] w fun e w' => e = .returned (.bool (decide (0 ≤ y ∧ y ≤ 99))) ∧ w = w' := fun y w => by
    go_enter Tryz.func131, Tryz.ntmps131
    go_wp2
    all_goals
      go_ret
      exact ⟨by simp; omega, rfl⟩
  have HB : ∀ b : Bool, b = decide (0 ≤ y ∧ y ≤ 99) → Hid (bucketOk c y = (decide (1 ≤ c ∧ c ≤ 9) && b)) := fun b hb => by
    unfold Hid bucketOk; rw [hb, Bool.eq_iff_iff]; simp; omega
  have YC := Y y
  generalize hq : decide (0 ≤ y ∧ y ≤ 99) = q at *
  have HB' := HB q rfl
  clear HB hq Y
  go_enter Tryz.func76, Tryz.ntmps76
  go_wp2_with (go_at_call 131; refine (YC _).mono ?_; rintro e w' ⟨rfl, rfl⟩)
  all_goals
    go_ret
    exact ⟨by rw [HB'.out]; simp; omega, rfl⟩
end Go.Proofs.YtnfedcaehkcffaaGreat
end
section
/- The walk of roll.Forward. -/
namespace Go.Sl
open Go Go.RowKit
def setO (v : Int) (r : SWay) : SWay := ⟨r.cls, r.yr, v, r.mov, r.clo⟩
def setC (v : Int) (r : SWay) : SWay := ⟨r.cls, r.yr, r.opn, r.mov, v⟩
def fO (rows : List SWay) (b : STri) : List SWay := ups (setO b.c) b.a b.b rows
def fC (rows : List SWay) (b : STri) : List SWay := ups (setC b.c) b.a b.b rows
def fM (r : SWay) : SWay := ⟨r.cls, r.yr, r.opn, wrap64 (r.clo - r.opn), r.clo⟩
def fwdRaw (o c : List STri) : List SWay := (c.foldl fC (o.foldl fO [])).map fM
def fwd (o c : List STri) : List SWay := isort ordPair wkey (fwdRaw o c)
theorem fold_len {f : List SWay → STri → List SWay} (hf : ∀ rows b, (f rows b).length ≤ rows.length + 1) : ∀ (l : List STri) (rows : List SWay), (l.foldl f rows).length ≤ rows.length + l.length
  | [], rows => by simp
  | b :: l, rows => by
    have h1 := fold_len hf l (f rows b)
    have h2 := hf rows b
    simp only [List.foldl_cons, List.length_cons]; omega
theorem fO_len (rows : List SWay) (b : STri) : (fO rows b).length ≤ rows.length + 1 := len_ups _ _ _ _
theorem fC_len (rows : List SWay) (b : STri) : (fC rows b).length ≤ rows.length + 1 := len_ups _ _ _ _
theorem fold_dist {f : List SWay → STri → List SWay} (hf : ∀ rows b, Dist rows → Dist (f rows b)) : ∀ (l : List STri) (rows : List SWay), Dist rows → Dist (l.foldl f rows)
  | [], _, h => h
  | b :: l, rows, h => fold_dist hf l _ (hf rows b h)
theorem fO_dist (rows : List SWay) (b : STri) (h : Dist rows) : Dist (fO rows b) := Dist.ups (f := setO b.c) (fun _ => rfl) _ _ h
theorem fC_dist (rows : List SWay) (b : STri) (h : Dist rows) : Dist (fC rows b) := Dist.ups (f := setC b.c) (fun _ => rfl) _ _ h
theorem fwdRaw_dist (o c : List STri) : Dist (fwdRaw o c) := by
  have h := fold_dist fC_dist c _ (fold_dist fO_dist o [] List.Pairwise.nil)
  unfold fwdRaw Dist
  rw [List.pairwise_map]
  exact h
theorem isort_len {l : List SWay} (h : Dist l) : (isort ordPair wkey l).length = l.length := by
  induction l with
  | nil => rfl
  | cons x l ih =>
    obtain ⟨h1, h2⟩ := List.pairwise_cons.1 h
    show (put ordPair wkey x (isort ordPair wkey l)).length = _
    rw [len_put x (isort_rising l), del_none, ih h2]; rfl
    refine find_miss fun y hy => ?_
    have := (mem_isort h2).1 hy
    exact (h1 y this).symm
theorem foldl_next {f : List SWay → STri → List SWay} {l : List STri} {j : Nat} {b : STri} (h : Hid (l[j]? = some b)) (rows : List SWay) : (l.take (j + 1)).foldl f rows = f ((l.take j).foldl f rows) b := by
  rw [take_next h, List.foldl_append]; rfl
end Go.Sl
namespace Go.Proofs.YtnfedcaehkcffaaGreat
open Go.RowKit Go.Sl
set_option maxHeartbeats 4000000
set_option maxRecDepth 100000
theorem forward_calls (A B : Option Addr) (ca cb : Nat) (xs ys : List STri) (h k : Hp) (w : World) (hs : h.sub w) (ks : k.sub w) (sx : Sl kTri h A ca xs) (sy : Sl kTri k B cb ys) (hx : xs.length ≤ 1000) (hy : ys.length ≤ 1000) :
    Calls Tryz.prog 106 #[.slice A xs.length ca, .slice B ys.length cb] w fun e w' => ∃ C cap h', e = .returned (.slice C (fwd xs ys).length cap) ∧ Ow kWay h' C cap (fwd xs ys) ∧ Upd Hp.none h' w w' := by
  have m1 := sx.small
  have m2 := sy.small
  go_enter Tryz.func106, Tryz.ntmps106
  go_wp2
  go_loopw [5, 6, 14] (fun v iv i wr => ∃ (j cap m : Nat) (z : Int) (C : Option Addr) (h' : Hp), j ≤ xs.length ∧ i = .int .i64 j ∧ iv = .int .i64 z ∧ v = .slice C m cap ∧ Hid (((xs.take j).foldl fO []).length = m) ∧ m ≤ j ∧ Ow kWay h' C cap ((xs.take j).foldl fO []) ∧ Upd Hp.none h' w wr) (fun _ _ i _ => xs.length - (intOf i).toNat)
  case atStart => exact ⟨0, 0, 0, 0, none, Hp.none, by omega, rfl, rfl, rfl, rfl, by omega, Ow.none _ _, Upd.of_below (Below.refl _ _)⟩
  case round =>
    obtain ⟨j, cap, m, z, C, h', hj, rfl, rfl, rfl, hm, hm2, ho, hu⟩ := hrel
    by_cases hlt : j < xs.length
    · obtain ⟨x, hxx⟩ := some_of_lt hlt
      obtain ⟨b1, o1, rfl, c1, c2, c3⟩ := sx.tri (hs.of_below hu.below) hxx
      have i1 : (0 : Int) ≤ (j : Int) := by omega
      have i2 : (j : Int) < (xs.length : Int) := by omega
      have HT := Lib.hid (foldl_next (f := fO) hxx [])
      have HLn : Hid ((fO ((xs.take j).foldl fO []) x).length ≤ m + 1) := by unfold Hid; rw [← hm.out]; exact fO_len _ _
      generalize (xs.take j).foldl fO [] = rows at *
      obtain ⟨r, hr1, hr2, hr3⟩ := at_ups (setO x.c) x.a x.b rows
      have hr2' : Hid ((atR rows x.a x.b).set (atI rows x.a x.b) (setO x.c r) = fO rows x) := hr2
      have AC := fun (W : World) (hW : Below wr.heap.size wr W) => at_calls C cap rows x.a x.b h' W (hu.sub.of_below hW) ho (by rw [hm.out]; omega) m hm.out
      clear hr2
      generalize atR rows x.a x.b = R at *
      generalize atI rows x.a x.b = q at *
      have hr1' : Hid (R[q]? = some r) := hr1
      have i3 : (0 : Int) ≤ (q : Int) := by omega
      have i4 : (q : Int) < (R.length : Int) := by have := (List.getElem?_eq_some_iff.1 hr1).1; omega
      clear hr1
      go_wp2_with fail
      refine (AC _ (by repeat (first | exact Below.refl _ _ | apply Below.drew | refine Below.alloc ?_ (by simp) _))).mono ?_
      rintro e w2 ⟨C2, cap2, h2, rfl, o2, u2⟩
      obtain ⟨b2, of2, rfl, d1, d2, d3, d4, d5⟩ := o2.sl.way u2.sub hr1'
      have hf := o2.cell_free u2.sub (lt_of_some hr1'.out)
      have hfree : h' wr.heap.size = none := hu.sub.free (Nat.le_refl _)
      have g2 : w2.cell? ⟨wr.heap.size, 2, none⟩ = some (.int .i64 x.c) := u2.cell (by simp) hfree
      obtain ⟨h3, o3, u3⟩ := Ow.set (x' := setO x.c r) (v := .int .i64 x.c) (j := 2) o2 u2.sub hr1'.out (by decide) rfl
      rw [hr2'.out] at o3
      have hlr : Hid ((fO rows x).length = R.length) := by unfold Hid; rw [← hr2'.out, List.length_set]
      clear hfree AC
      go_wp2
      go_roundw
      case rel => exact ⟨j + 1, cap2, R.length, q, _, h3, by omega, by go_num, rfl, rfl, by rw [HT.out]; exact hlr.out, by have := HLn.out; have := hlr.out; omega, by rw [HT.out]; exact o3, hu.trans ((u2.before (by repeat (first | exact Below.refl _ _ | apply Below.drew | refine Below.alloc ?_ (by simp) _))).trans u3)⟩
      case measure => simp [intOf]; omega
    · obtain rfl : j = xs.length := by omega
      rw [List.take_length] at hm ho
      have hd0 : Hid (Dist (xs.foldl fO [])) := fold_dist fO_dist xs [] List.Pairwise.nil
      have HF : Hid (fwdRaw xs ys = (ys.foldl fC (xs.foldl fO [])).map fM) := rfl
      generalize xs.foldl fO [] = rows0 at *
      obtain ⟨wo, rfl⟩ : ∃ wo : World, wo = wr := ⟨_, rfl⟩
      go_wp2
      go_loopw [5, 6, 36] (fun v iv i wr => ∃ (j cap m : Nat) (z : Int) (C : Option Addr) (h' : Hp), j ≤ ys.length ∧ i = .int .i64 j ∧ iv = .int .i64 z ∧ v = .slice C m cap ∧ Hid (((ys.take j).foldl fC rows0).length = m) ∧ m ≤ xs.length + j ∧ Ow kWay h' C cap ((ys.take j).foldl fC rows0) ∧ Upd Hp.none h' w wr) (fun _ _ i _ => ys.length - (intOf i).toNat)
      case atStart => exact ⟨0, cap, m, z, C, h', by omega, rfl, rfl, rfl, hm, by omega, ho, hu⟩
      case round =>
        clear ho hm hm2 hu
        obtain ⟨j, cap, m, z, C, h', hj, rfl, rfl, rfl, hm, hm2, ho, hu⟩ := hrel
        by_cases hlt : j < ys.length
        · obtain ⟨x, hxx⟩ := some_of_lt hlt
          obtain ⟨b1, o1, rfl, c1, c2, c3⟩ := sy.tri (ks.of_below hu.below) hxx
          have i1 : (0 : Int) ≤ (j : Int) := by omega
          have i2 : (j : Int) < (ys.length : Int) := by omega
          have HT := Lib.hid (foldl_next (f := fC) hxx rows0)
          have HLn : Hid ((fC ((ys.take j).foldl fC rows0) x).length ≤ m + 1) := by unfold Hid; rw [← hm.out]; exact fC_len _ _
          generalize (ys.take j).foldl fC rows0 = rows at *
          obtain ⟨r, hr1, hr2, hr3⟩ := at_ups (setC x.c) x.a x.b rows
          have hr2' : Hid ((atR rows x.a x.b).set (atI rows x.a x.b) (setC x.c r) = fC rows x) := hr2
          have AC := fun (W : World) (hW : Below wr.heap.size wr W) => at_calls C cap rows x.a x.b h' W (hu.sub.of_below hW) ho (by rw [hm.out]; omega) m hm.out
          clear hr2
          generalize atR rows x.a x.b = R at *
          generalize atI rows x.a x.b = q at *
          have hr1' : Hid (R[q]? = some r) := hr1
          have i3 : (0 : Int) ≤ (q : Int) := by omega
          have i4 : (q : Int) < (R.length : Int) := by have := (List.getElem?_eq_some_iff.1 hr1).1; omega
          clear hr1
          go_wp2_with fail
          refine (AC _ (by repeat (first | exact Below.refl _ _ | apply Below.drew | refine Below.alloc ?_ (by simp) _))).mono ?_
          rintro e w2 ⟨C2, cap2, h2, rfl, o2, u2⟩
          obtain ⟨b2, of2, rfl, d1, d2, d3, d4, d5⟩ := o2.sl.way u2.sub hr1'
          have hf := o2.cell_free u2.sub (lt_of_some hr1'.out)
          have hfree : h' wr.heap.size = none := hu.sub.free (Nat.le_refl _)
          have g2 : w2.cell? ⟨wr.heap.size, 2, none⟩ = some (.int .i64 x.c) := u2.cell (by simp) hfree
          obtain ⟨h3, o3, u3⟩ := Ow.set (x' := setC x.c r) (v := .int .i64 x.c) (j := 4) o2 u2.sub hr1'.out (by decide) rfl
          rw [hr2'.out] at o3
          have hlr : Hid ((fC rows x).length = R.length) := by unfold Hid; rw [← hr2'.out, List.length_set]
          clear hfree AC
          go_wp2
          go_roundw
          case rel => exact ⟨j + 1, cap2, R.length, q, _, h3, by omega, by go_num, rfl, rfl, by rw [HT.out]; exact hlr.out, by have := HLn.out; have := hlr.out; omega, by rw [HT.out]; exact o3, hu.trans ((u2.before (by repeat (first | exact Below.refl _ _ | apply Below.drew | refine Below.alloc ?_ (by simp) _))).trans u3)⟩
          case measure => simp [intOf]; omega
        · obtain rfl : j = ys.length := by omega
          rw [List.take_length] at hm ho
          have hD : Hid (Dist (fwdRaw xs ys)) := fwdRaw_dist xs ys
          generalize ys.foldl fC rows0 = rows1 at *
          obtain ⟨wp, rfl⟩ : ∃ wp : World, wp = wr := ⟨_, rfl⟩
          go_wp2
          go_loopw [58] (fun i wr => ∃ (j : Nat) (zs : List SWay) (h' : Hp), j ≤ m ∧ i = .int .i64 j ∧ Hid (zs = (rows1.take j).map fM ++ rows1.drop j) ∧ Ow kWay h' C cap zs ∧ Upd Hp.none h' w wr) (fun i _ => m - (intOf i).toNat)
          case atStart => exact ⟨0, rows1, h', by omega, rfl, rfl, ho, hu⟩
          case round =>
            clear ho hu
            obtain ⟨j, zs, h', hj, rfl, hz, ho, hu⟩ := hrel
            by_cases hlt : j < m
            · obtain ⟨x, hxx⟩ := some_of_lt (show j < rows1.length by rw [hm.out]; exact hlt)
              have hzx : Hid (zs[j]? = some x) := by unfold Hid; rw [hz.out, map_get_step]; exact hxx.out
              obtain ⟨b1, o1, rfl, c1, c2, c3, c4, c5⟩ := ho.sl.way hu.sub hzx
              have hf := ho.cell_free hu.sub (lt_of_some hzx.out)
              have i1 : (0 : Int) ≤ (j : Int) := by omega
              have i2 : (j : Int) < (m : Int) := by omega
              obtain ⟨h3, o3, u3⟩ := Ow.set (x' := fM x) (v := .int .i64 (wrap64 (x.clo - x.opn))) (j := 3) ho hu.sub hzx.out (by decide) rfl
              have hz2 : Hid (zs.set j (fM x) = (rows1.take (j + 1)).map fM ++ rows1.drop (j + 1)) := by unfold Hid; rw [hz.out]; exact map_set_step fM rows1 j x hxx.out
              go_wp2
              go_region
              go_wp2
              go_roundw
              case rel => exact ⟨j + 1, _, h3, by omega, by go_num, hz2, o3, (hu.trans u3).after ((Below.refl _ _).drew)⟩
              case measure => simp [intOf]; omega
            · obtain rfl : j = m := by omega
              have hzf : Hid (zs = fwdRaw xs ys) := by
                unfold Hid; rw [hz.out, HF.out, List.take_of_length_le (by rw [hm.out]; omega), List.drop_of_length_le (by rw [hm.out]; omega), List.append_nil]
              have hzl : Hid (zs.length = j) := by unfold Hid; rw [hz.out]; simp [hm.out]
              have hDz : Hid (Dist zs) := by unfold Hid; rw [hzf.out]; exact hD.out
              have hfw : Hid (fwd xs ys = isort ordPair wkey zs) := by unfold Hid fwd; rw [hzf.out]
              clear hz hD HF hd0
              by_cases h0 : 0 < zs.length
              · obtain ⟨ad, hC⟩ := ho.some_of_lt h0
                obtain ⟨b1, o1, cur, E, hd, _⟩ := ho.row ad hC (by have := ho.le; omega)
                subst hd
                subst hC
                go_wp2_with fail
                refine (rollSorted_calls b1 o1 cap zs h' _ hu.sub ho hDz.out h0 (by rw [hzl.out]; omega) j hzl.out).mono ?_
                rintro e w4 ⟨h4, rfl, o4, u4⟩
                go_wp2
                go_ret
                exact ⟨_, _, h4, by rw [hfw.out, isort_len hDz.out, hzl.out]; rfl, by rw [hfw.out]; exact o4, hu.trans u4⟩
              · have hz0 : zs = [] := List.eq_nil_of_length_eq_zero (by omega)
                have hj0 : 0 = j := by rw [← hzl.out, hz0]; rfl
                have hfe : Hid (fwd xs ys = []) := by unfold Hid; rw [hfw.out, hz0]; rfl
                have hoe : Hid (Ow kWay h' C cap []) := by rw [hz0] at ho; exact ho
                clear ho h0 hzl hz0 hfw hzf hDz
                go_wp2_with fail
                refine (rollSortedNone_calls C cap j hj0 _).mono ?_
                rintro e w4 ⟨rfl, rfl⟩
                go_wp2
                go_ret
                exact ⟨C, cap, h', by rw [hfe.out, ← hj0]; rfl, by rw [hfe.out]; exact hoe.out, hu⟩
end Go.Proofs.YtnfedcaehkcffaaGreat
end
section
/- What the type table says of scutageref09.Way. -/
namespace Go.Proofs.YtnfedcaehkcffaaGreat
open Go.RowKit Go.Sl
set_option maxHeartbeats 1000000
set_option maxRecDepth 100000
theorem info_way : Info Tryz.prog 153 (.agg #[.int .i64 0, .int .i64 0, .int .i64 0, .int .i64 0, .int .i64 0]) 5 40 := by unfold Info; kernel_rfl
end Go.Proofs.YtnfedcaehkcffaaGreat
end
section
/- The walk of the reference's Forward. -/
namespace Go.Sl
open Go Go.RowKit
def wayOf (o c : List STri) (cl yr : Int) : List SWay := if getB o cl yr ≠ 0 ∨ getB c cl yr ≠ 0 then [⟨cl, yr, getB o cl yr, wrap64 (getB c cl yr - getB o cl yr), getB c cl yr⟩] else []
def yrsTo (o c : List STri) (cl : Int) : Nat → List SWay
  | 0 => []
  | n + 1 => yrsTo o c cl n ++ wayOf o c cl n
def clsTo (o c : List STri) : Nat → List SWay
  | 0 => []
  | m + 1 => clsTo o c m ++ yrsTo o c (m + 1) 100
def refFwd (o c : List STri) : List SWay := clsTo o c 9
theorem yrsTo_len (o c : List STri) (cl : Int) : ∀ n, (yrsTo o c cl n).length ≤ n
  | 0 => by simp [yrsTo]
  | n + 1 => by
    have := yrsTo_len o c cl n
    simp only [yrsTo, wayOf, List.length_append]
    split <;> simp <;> omega
theorem clsTo_len (o c : List STri) : ∀ m, (clsTo o c m).length ≤ m * 100
  | 0 => by simp [clsTo]
  | m + 1 => by
    have h1 := clsTo_len o c m
    have h2 := yrsTo_len o c (m + 1) 100
    simp only [clsTo, List.length_append]; omega
end Go.Sl
namespace Go.Proofs.YtnfedcaehkcffaaGreat
open Go.RowKit Go.Sl
set_option maxHeartbeats 4000000
set_option maxRecDepth 100000
theorem refForward_calls (A B : Option Addr) (ca cb : Nat) (xs ys : List STri) (h k : Hp) (w : World) (hs : h.sub w) (ks : k.sub w) (sx : Sl kTri h A ca xs) (sy : Sl kTri k B cb ys) :
    Calls Tryz.prog 89 #[.slice A xs.length ca, .slice B ys.length cb] w fun e w' => ∃ C cap h', e = .returned (.slice C (refFwd xs ys).length cap) ∧ Ow kWay h' C cap (refFwd xs ys) ∧ Upd Hp.none h' w w' := by
  have m1 := sx.small
  have m2 := sy.small
  have GX := fun (p : Nat) (W : World) (hW : Below w.heap.size w W) (hc : W.cell? ⟨p, 0, none⟩ = some (.slice A xs.length ca)) (c y : Int) => refGet_calls p A ca xs c y h W (hs.of_below hW) hc sx
  have GY := fun (p : Nat) (W : World) (hW : Below w.heap.size w W) (hc : W.cell? ⟨p, 0, none⟩ = some (.slice B ys.length cb)) (c y : Int) => refGet_calls p B cb ys c y k W (ks.of_below hW) hc sy
  go_enter Tryz.func89, Tryz.ntmps89
  go_wp2
  obtain ⟨W0, hW0⟩ : ∃ W0 : World, W0 = (w.alloc (.cells #[.slice A xs.length ca] 74)).alloc (.cells #[.slice B ys.length cb] 74) := ⟨_, rfl⟩
  have B0 : Below w.heap.size w W0 := by rw [hW0]; exact (by repeat (first | exact Below.refl _ _ | apply Below.drew | refine Below.alloc ?_ (by simp) _))
  have p0 : W0.cell? ⟨w.heap.size, 0, none⟩ = some (.slice A xs.length ca) := by rw [hW0]; simp
  have q0 : W0.cell? ⟨w.heap.size + 1, 0, none⟩ = some (.slice B ys.length cb) := by rw [hW0, cell_new (by simp)]; rfl
  rw [← hW0]
  clear hW0
  go_loopw [7, 8, 9, 10, 11] (fun v c y0 a0 b0 wr => ∃ (m cap n : Nat) (C : Option Addr) (h' : Hp), m ≤ 9 ∧ c = .int .i64 (m + 1) ∧ v = .slice C n cap ∧ Hid ((clsTo xs ys m).length = n) ∧ Ow kWay h' C cap (clsTo xs ys m) ∧ Upd Hp.none h' W0 wr) (fun _ c _ _ _ _ => 10 - (intOf c).toNat)
  case atStart => exact ⟨0, 0, 0, none, Hp.none, by omega, rfl, rfl, rfl, Ow.none _ _, Upd.of_below (Below.refl _ _)⟩
  case round =>
    obtain ⟨m, cap, n, C, h', hm, rfl, rfl, hn, ho, hu⟩ := hrel
    by_cases hlt : m < 9
    · have i1 : (0 : Int) ≤ (m : Int) := by omega
      have i2 : (m : Int) < 9 := by omega
      obtain ⟨wo, rfl⟩ : ∃ wo : World, wo = wr := ⟨_, rfl⟩
      have P0 := World.block_lt_of_cell? W0 _ p0
      have Q0 := World.block_lt_of_cell? W0 _ q0
      have hcl := clsTo_len xs ys m
      go_wp2
      go_loopw [7, 9, 10, 11] (fun v yv a0 b0 wr => ∃ (y cap n : Nat) (C : Option Addr) (h' : Hp), y ≤ 100 ∧ yv = .int .i64 y ∧ v = .slice C n cap ∧ Hid ((clsTo xs ys m ++ yrsTo xs ys ((m : Int) + 1) y).length = n) ∧ n ≤ 1000 + y ∧ Ow kWay h' C cap (clsTo xs ys m ++ yrsTo xs ys ((m : Int) + 1) y) ∧ Upd Hp.none h' W0 wr) (fun _ yv _ _ _ => 100 - (intOf yv).toNat)
      case atStart => exact ⟨0, cap, n, C, h', by omega, rfl, rfl, by unfold Hid; simpa [yrsTo] using hn.out, by have := hn.out; omega, by simpa [yrsTo] using ho, hu⟩
      case round =>
        clear ho hn hu
        obtain ⟨y, cap, n, C, h', hy, rfl, rfl, hn, hn2, ho, hu⟩ := hrel
        by_cases hlt2 : y < 100
        · have i3 : (0 : Int) ≤ (y : Int) := by omega
          have i4 : (y : Int) < 100 := by omega
          have G1 := GX w.heap.size wr (B0.trans (hu.below.mono B0.size)) ((hu.below.cell (p := ⟨w.heap.size, 0, none⟩) P0).trans p0) ((m : Int) + 1) y
          have G2 := fun (W : World) (hW : Below wr.heap.size wr W) => GY (w.heap.size + 1) W ((B0.trans (hu.below.mono B0.size)).trans (hW.mono (Nat.le_trans B0.size hu.size))) ((hW.cell (p := ⟨w.heap.size + 1, 0, none⟩) (Nat.lt_of_lt_of_le Q0 hu.size)).trans ((hu.below.cell (p := ⟨w.heap.size + 1, 0, none⟩) Q0).trans q0)) ((m : Int) + 1) y
          have HW : wayOf xs ys ((m : Int) + 1) y = if getB xs ((m : Int) + 1) y ≠ 0 ∨ getB ys ((m : Int) + 1) y ≠ 0 then [⟨(m : Int) + 1, y, getB xs ((m : Int) + 1) y, wrap64 (getB ys ((m : Int) + 1) y - getB xs ((m : Int) + 1) y), getB ys ((m : Int) + 1) y⟩] else [] := rfl
          obtain ⟨os, hos⟩ : ∃ os, os = clsTo xs ys m ++ yrsTo xs ys ((m : Int) + 1) y := ⟨_, rfl⟩
          generalize getB xs ((m : Int) + 1) y = a at *
          generalize getB ys ((m : Int) + 1) y = b at *
          have HY : (a ≠ 0 ∨ b ≠ 0) → Hid (clsTo xs ys m ++ yrsTo xs ys ((m : Int) + 1) (y + 1) = os ++ [⟨(m : Int) + 1, y, a, wrap64 (b - a), b⟩]) := fun h => by
            unfold Hid; rw [yrsTo, HW, if_pos h, ← List.append_assoc, hos]
          have HNo : ¬(a ≠ 0 ∨ b ≠ 0) → Hid (clsTo xs ys m ++ yrsTo xs ys ((m : Int) + 1) (y + 1) = os) := fun h => by
            unfold Hid; rw [yrsTo, HW, if_neg h, List.append_nil, hos]
          rw [← hos] at hn ho
          clear HW hos
          go_wp2_with fail
          refine G1.mono ?_
          rintro e w2 ⟨rfl, b2⟩
          go_wp2_with fail
          refine (G2 _ b2).mono ?_
          rintro e w3 ⟨rfl, b3⟩
          have B2 : Below wr.heap.size wr w3 := b2.trans (b3.mono b2.size)
          clear G1 G2 b2 b3
          by_cases ha : a = 0
          · by_cases hbb : b = 0
            · have HT := HNo (by simp [ha, hbb])
              have t1 : (a != 0) = false := by simpa using ha
              have t2 : (b != 0) = false := by simpa using hbb
              clear ha hbb HY HNo
              go_wp2
              go_roundw
              case rel => exact ⟨y + 1, cap, n, C, h', by omega, by go_num, rfl, by unfold Hid; rw [HT.out]; exact hn.out, by omega, by rw [HT.out]; exact ho, hu.after B2⟩
              case measure => simp [intOf]; omega
            · have HT := HY (.inr hbb)
              have t1 : (a != 0) = false := by simpa using ha
              have t2 : (b != 0) = true := by simpa using hbb
              clear ha hbb HY HNo
              go_wp2_with (at_builtin; refine wpList_app1f (h := h') (xs := os) (y := ⟨(m : Int) + 1, y, a, wrap64 (b - a), b⟩) Tryz.underlying88 info_way (by rfl) (by rfl) rfl n 1 (by rfl) (by rfl) hn.out ho ((hu.sub.of_below B2).of_below (by repeat (first | exact Below.refl _ _ | apply Below.drew | refine Below.alloc ?_ (by simp) _))) (heap_new_at (by simp)) rfl (by omega) (by omega) ?_; intro C' cap' w4 h4 ho4 hu4)
              go_roundw
              case rel => exact ⟨y + 1, cap', n + 1, C', h4, by omega, by go_num, rfl, by unfold Hid; rw [HT.out, List.length_append, hn.out]; rfl, by omega, by rw [HT.out]; exact ho4, (hu.after B2).trans (hu4.before (by repeat (first | exact Below.refl _ _ | apply Below.drew | refine Below.alloc ?_ (by simp) _)))⟩
              case measure => simp [intOf]; omega
          · have HT := HY (.inl ha)
            have t1 : (a != 0) = true := by simpa using ha
            clear ha HY HNo
            go_wp2_with (at_builtin; refine wpList_app1f (h := h') (xs := os) (y := ⟨(m : Int) + 1, y, a, wrap64 (b - a), b⟩) Tryz.underlying88 info_way (by rfl) (by rfl) rfl n 1 (by rfl) (by rfl) hn.out ho ((hu.sub.of_below B2).of_below (by repeat (first | exact Below.refl _ _ | apply Below.drew | refine Below.alloc ?_ (by simp) _))) (heap_new_at (by simp)) rfl (by omega) (by omega) ?_; intro C' cap' w4 h4 ho4 hu4)
            go_roundw
            case rel => exact ⟨y + 1, cap', n + 1, C', h4, by omega, by go_num, rfl, by unfold Hid; rw [HT.out, List.length_append, hn.out]; rfl, by omega, by rw [HT.out]; exact ho4, (hu.after B2).trans (hu4.before (by repeat (first | exact Below.refl _ _ | apply Below.drew | refine Below.alloc ?_ (by simp) _)))⟩
            case measure => simp [intOf]; omega
        · obtain rfl : y = 100 := by omega
          go_wp2
          go_roundw
          case rel => exact ⟨m + 1, cap, n, C, h', by omega, by go_num, rfl, hn, ho, hu⟩
          case measure => simp [intOf]; omega
    · obtain rfl : m = 9 := by omega
      go_wp2
      go_ret
      exact ⟨C, cap, h', by rw [← hn.out]; rfl, ho, hu.before B0⟩
end Go.Proofs.YtnfedcaehkcffaaGreat
end
section
/- Plain facts about rolls: the program's rows are the document's, for registers. -/
namespace Go.Sl
open Go Go.RowKit
theorem mem_wayOf {o c : List STri} {cl yr : Int} {x : SWay} : x ∈ wayOf o c cl yr ↔ (getB o cl yr ≠ 0 ∨ getB c cl yr ≠ 0) ∧ x = ⟨cl, yr, getB o cl yr, wrap64 (getB c cl yr - getB o cl yr), getB c cl yr⟩ := by
  unfold wayOf; split <;> simp_all
theorem mem_yrsTo {o c : List STri} {cl : Int} {x : SWay} : ∀ {n : Nat}, x ∈ yrsTo o c cl n ↔ ∃ y : Nat, y < n ∧ x ∈ wayOf o c cl y
  | 0 => by simp [yrsTo]
  | n + 1 => by
    simp only [yrsTo, List.mem_append, mem_yrsTo (n := n)]
    constructor
    · rintro (⟨y, h, e⟩ | h)
      · exact ⟨y, by omega, e⟩
      · exact ⟨n, by omega, h⟩
    · rintro ⟨y, h, e⟩
      by_cases hy : y = n
      · subst hy; exact .inr e
      · exact .inl ⟨y, by omega, e⟩
theorem mem_clsTo {o c : List STri} {x : SWay} : ∀ {m : Nat}, x ∈ clsTo o c m ↔ ∃ k y : Nat, k < m ∧ y < 100 ∧ x ∈ wayOf o c ((k : Int) + 1) y
  | 0 => by simp [clsTo]
  | m + 1 => by
    simp only [clsTo, List.mem_append, mem_clsTo (m := m), mem_yrsTo]
    constructor
    · rintro (⟨k, y, h, hy, e⟩ | ⟨y, hy, e⟩)
      · exact ⟨k, y, by omega, hy, e⟩
      · exact ⟨m, y, by omega, hy, e⟩
    · rintro ⟨k, y, h, hy, e⟩
      by_cases hk : k = m
      · subst hk; exact .inr ⟨y, hy, e⟩
      · exact .inl ⟨k, y, by omega, hy, e⟩
theorem rising_yrs {o c : List STri} (cl : Int) : ∀ n : Nat, Rising ordPair wkey (yrsTo o c cl n)
  | 0 => List.Pairwise.nil
  | n + 1 => by
    refine List.pairwise_append.2 ⟨rising_yrs cl n, ?_, fun x hx z hz => ?_⟩
    · unfold wayOf; split <;> simp
    · obtain ⟨y, hy, hx⟩ := mem_yrsTo.1 hx
      obtain ⟨_, rfl⟩ := mem_wayOf.1 hx
      obtain ⟨_, rfl⟩ := mem_wayOf.1 hz
      simp [ordPair, wkey]; omega
theorem rising_cls {o c : List STri} : ∀ m : Nat, Rising ordPair wkey (clsTo o c m)
  | 0 => List.Pairwise.nil
  | m + 1 => by
    refine List.pairwise_append.2 ⟨rising_cls m, rising_yrs _ 100, fun x hx z hz => ?_⟩
    obtain ⟨k, y, hk, hy, hx⟩ := mem_clsTo.1 hx
    obtain ⟨y2, hy2, hz⟩ := mem_yrsTo.1 hz
    obtain ⟨_, rfl⟩ := mem_wayOf.1 hx
    obtain ⟨_, rfl⟩ := mem_wayOf.1 hz
    simp [ordPair, wkey]; omega
theorem find_cons {κ α : Type} [DecidableEq κ] {key : α → κ} {k : κ} {x : α} {l : List α} : find key k (x :: l) = if key x = k then some x else find key k l := by
  by_cases h : key x = k <;> simp [find, h]
/-- What loops over buckets leave of a row. -/
theorem find_fold {f : Int → SWay → SWay} (hf : ∀ v r, wkey (f v r) = wkey r) (k : Int × Int) : ∀ (l : List STri) (rows : List SWay), l.Pairwise (fun x y => rkey x ≠ rkey y) →
    find wkey k (l.foldl (fun rows b => ups (f b.c) b.a b.b rows) rows) = match find rkey k l with
      | some b => some (f b.c ((find wkey k rows).getD ⟨k.1, k.2, 0, 0, 0⟩))
      | none => find wkey k rows
  | [], rows, _ => by simp [find]
  | b :: l, rows, h => by
    obtain ⟨h1, h2⟩ := List.pairwise_cons.1 h
    rw [List.foldl_cons, find_fold hf k l _ h2, find_cons, find_ups (hf b.c)]
    by_cases hk : rkey b = k
    · have hn : find rkey k l = none := find_miss fun y hy e => h1 y hy (hk.trans e.symm)
      have hk' : k = (b.a, b.b) := hk.symm
      rw [hn, if_pos hk, if_pos hk', ← hk']
      subst hk'; rfl
    · have hk' : ¬ k = (b.a, b.b) := fun e => hk e.symm
      rw [if_neg hk, if_neg hk']
theorem rising_ne {l : List STri} (h : RisingR l) : l.Pairwise fun x y => rkey x ≠ rkey y := h.imp fun hxy => ordPair.ne hxy
theorem getB_some {l : List STri} {c y : Int} {b : STri} (h : find rkey (c, y) l = some b) : getB l c y = b.c := by unfold getB; rw [h]
theorem getB_none {l : List STri} {c y : Int} (h : find rkey (c, y) l = none) : getB l c y = 0 := by unfold getB; rw [h]
/-- What rolls ask of buckets. -/
structure LoR (l : List STri) : Prop where
  rise : RisingR l
  nz : ∀ b ∈ l, b.c ≠ 0
  rng : ∀ b ∈ l, bucketOk b.a b.b = true
theorem LoR.nil : LoR [] := ⟨List.Pairwise.nil, by simp, by simp⟩
theorem GoodR.lo {l : List STri} (g : GoodR l) : LoR l := ⟨g.rise, g.nz, g.rng⟩
theorem find_both {o c : List STri} (go : LoR o) (gc : LoR c) (cl yr : Int) : find wkey (cl, yr) (c.foldl fC (o.foldl fO [])) = if getB o cl yr ≠ 0 ∨ getB c cl yr ≠ 0 then some ⟨cl, yr, getB o cl yr, 0, getB c cl yr⟩ else none := by
  have e1 := find_fold (f := setO) (fun _ _ => rfl) (cl, yr) o [] (rising_ne go.rise)
  have e2 := find_fold (f := setC) (fun _ _ => rfl) (cl, yr) c (o.foldl fO []) (rising_ne gc.rise)
  have e1' : find wkey (cl, yr) (o.foldl fO []) = _ := e1
  have e2' : find wkey (cl, yr) (c.foldl fC (o.foldl fO [])) = _ := e2
  rw [e2', e1']
  cases ho : find rkey (cl, yr) o with
  | none =>
    cases hc : find rkey (cl, yr) c with
    | none => rw [getB_none ho, getB_none hc]; simp [find]
    | some b =>
      have := gc.nz b (find_some hc).1
      rw [getB_none ho, getB_some hc, if_pos (.inr this)]; rfl
  | some a =>
    have ha := go.nz a (find_some ho).1
    cases hc : find rkey (cl, yr) c with
    | none => rw [getB_none hc, getB_some ho, if_pos (.inl ha)]; rfl
    | some b => rw [getB_some hc, getB_some ho, if_pos (.inl ha)]; rfl
theorem getB_rng {l : List STri} (g : LoR l) {c y : Int} (h : getB l c y ≠ 0) : 1 ≤ c ∧ c ≤ 9 ∧ 0 ≤ y ∧ y ≤ 99 := by
  cases hf : find rkey (c, y) l with
  | none => exact absurd (getB_none hf) h
  | some b =>
    obtain ⟨h1, h2⟩ := find_some hf
    have := g.rng b h1
    simp only [rkey, Prod.mk.injEq] at h2
    rw [h2.1, h2.2] at this
    simpa [bucketOk] using this
/-- The program's rows are the document's. -/
theorem fwd_ref' {o c : List STri} (go : LoR o) (gc : LoR c) : fwd o c = refFwd o c := by
  refine Rising.ext ordPair wkey (isort_rising _) (rising_cls 9) fun x => ?_
  unfold fwd
  rw [mem_isort (fwdRaw_dist o c)]
  have hD : Dist (c.foldl fC (o.foldl fO [])) := fold_dist fC_dist c _ (fold_dist fO_dist o [] List.Pairwise.nil)
  show x ∈ (c.foldl fC (o.foldl fO [])).map fM ↔ _
  unfold refFwd
  rw [List.mem_map, mem_clsTo]
  constructor
  · rintro ⟨r, hr, rfl⟩
    have hf := hD.mem_find.1 hr
    have hb := find_both go gc r.cls r.yr
    have hw : wkey r = (r.cls, r.yr) := rfl
    rw [hw] at hf
    rw [hf] at hb
    split at hb
    · rename_i hne
      have hrr := Option.some.inj hb
      have hrg : 1 ≤ r.cls ∧ r.cls ≤ 9 ∧ 0 ≤ r.yr ∧ r.yr ≤ 99 := by
        rcases hne with h | h
        · exact getB_rng go h
        · exact getB_rng gc h
      refine ⟨(r.cls - 1).toNat, r.yr.toNat, by omega, by omega, ?_⟩
      have e1 : (((r.cls - 1).toNat : Nat) : Int) + 1 = r.cls := by omega
      have e2 : ((r.yr.toNat : Nat) : Int) = r.yr := by omega
      rw [e1, e2, mem_wayOf]
      refine ⟨hne, ?_⟩
      conv => lhs; rw [hrr]
      rfl
    · cases hb
  · rintro ⟨k, y, hk, hy, hx⟩
    obtain ⟨hne, rfl⟩ := mem_wayOf.1 hx
    have hb := find_both go gc ((k : Int) + 1) y
    rw [if_pos hne] at hb
    exact ⟨_, (find_some hb).1, rfl⟩
theorem fwd_ref {o c : List STri} (go : GoodR o) (gc : GoodR c) : fwd o c = refFwd o c := fwd_ref' go.lo gc.lo
end Go.Sl
end
section
/- The walk of roll.Moved. -/
namespace Go.Sl
open Go Go.RowKit
def addMov (s : Int) (r : SWay) : Int := wrap64 (s + r.mov)
def movSum (rows : List SWay) : Int := rows.foldl addMov 0
end Go.Sl
namespace Go.Proofs.YtnfedcaehkcffaaGreat
open Go.RowKit Go.Sl
set_option maxHeartbeats 1000000
set_option maxRecDepth 100000
theorem moved_calls (A B : Option Addr) (ca cb : Nat) (xs ys : List STri) (h k : Hp) (w : World) (hs : h.sub w) (ks : k.sub w) (sx : Sl kTri h A ca xs) (sy : Sl kTri k B cb ys) (hx : xs.length ≤ 1000) (hy : ys.length ≤ 1000) :
    Calls Tryz.prog 54 #[.slice A xs.length ca, .slice B ys.length cb] w fun e w' => e = .returned (.int .i64 (movSum (fwd xs ys))) ∧ Below w.heap.size w w' := by
  have FC := forward_calls A B ca cb xs ys h k w hs ks sx sy hx hy
  have HM : Hid (movSum (fwd xs ys) = (fwd xs ys).foldl addMov 0) := rfl
  generalize fwd xs ys = rows at *
  go_enter Tryz.func54, Tryz.ntmps54
  go_wp2_with fail
  refine FC.mono ?_
  rintro e w1 ⟨C, cap, h1, rfl, o1, u1⟩
  have sl := o1.sl
  have m1 := o1.small
  have s1 := u1.sub
  have b1 := u1.below
  clear o1 u1 FC
  go_wp2
  go_loopw [5, 12] (fun s i wr => ∃ (j : Nat), j ≤ rows.length ∧ i = .int .i64 j ∧ s = .int .i64 ((rows.take j).foldl addMov 0) ∧ Below w1.heap.size w1 wr) (fun _ i _ => rows.length - (intOf i).toNat)
  case atStart => exact ⟨0, by omega, rfl, rfl, Below.refl _ _⟩
  case round =>
    obtain ⟨j, hj, rfl, rfl, hb⟩ := hrel
    by_cases hlt : j < rows.length
    · obtain ⟨x, hxx⟩ := some_of_lt hlt
      obtain ⟨b2, o2, rfl, c1, c2, c3, c4, c5⟩ := sl.way (s1.of_below hb) hxx
      have i1 : (0 : Int) ≤ (j : Int) := by omega
      have i2 : (j : Int) < (rows.length : Int) := by omega
      have HT : Hid ((rows.take (j + 1)).foldl addMov 0 = wrap64 ((rows.take j).foldl addMov 0 + x.mov)) := by unfold Hid; rw [take_next hxx, List.foldl_append]; rfl
      generalize (rows.take j).foldl addMov 0 = s at *
      go_wp2
      go_roundw
      case rel => exact ⟨j + 1, by omega, by go_num, by rw [HT.out], hb.alloc hb.size _⟩
      case measure => simp [intOf]; omega
    · obtain rfl : j = rows.length := by omega
      rw [List.take_length]
      go_wp2
      go_ret
      exact ⟨by rw [HM.out]; rfl, b1.trans (hb.mono b1.size)⟩
end Go.Proofs.YtnfedcaehkcffaaGreat
end
section
/- The walk of roll.Classes. -/
namespace Go.Sl
open Go Go.RowKit
def addR (x r : SWay) : SWay := ⟨r.cls, r.yr, wrap64 (r.opn + x.opn), wrap64 (r.mov + x.mov), wrap64 (r.clo + x.clo)⟩
def clsStep (rows : List SWay) (x : SWay) : List SWay := ups (addR x) x.cls (-1) rows
def classes (xs : List SWay) : List SWay := isort ordPair wkey (xs.foldl clsStep [])
theorem cls_dist : ∀ (l : List SWay) (rows : List SWay), Dist rows → Dist (l.foldl clsStep rows)
  | [], _, h => h
  | b :: l, _, h => cls_dist l _ (Dist.ups (f := addR b) (fun _ => rfl) _ _ h)
theorem cls_len : ∀ (l : List SWay) (rows : List SWay), (l.foldl clsStep rows).length ≤ rows.length + l.length
  | [], _ => by simp
  | b :: l, rows => by
    have h1 := cls_len l (clsStep rows b)
    have h2 : (clsStep rows b).length ≤ rows.length + 1 := len_ups _ _ _ _
    simp only [List.foldl_cons, List.length_cons]; omega
theorem cls_next {l : List SWay} {j : Nat} {b : SWay} (h : Hid (l[j]? = some b)) : (l.take (j + 1)).foldl clsStep [] = clsStep ((l.take j).foldl clsStep []) b := by
  rw [take_next h, List.foldl_append]; rfl
theorem Ow.block_ne {α : Type} {k : Kd α} {h : Hp} {b off cap q : Nat} {xs : List α} (o : Ow k h (some ⟨b, off, .none⟩) cap xs) (h0 : 0 < xs.length) (hq : h q = Option.none) : b ≠ q := fun e => by
  obtain ⟨b', off', cur, E, e', hb, _, _⟩ := o.row _ rfl (by have := o.le; omega)
  cases e'
  rw [e, hq] at hb; cases hb
end Go.Sl
namespace Go.Proofs.YtnfedcaehkcffaaGreat
open Go.RowKit Go.Sl
set_option maxHeartbeats 4000000
set_option maxRecDepth 100000
end Go.Proofs.YtnfedcaehkcffaaGreat
end
section
/- Plain facts about rolls: rows turned round, sums, classes, what a bucket moved. -/
namespace Go.Sl
open Go Go.RowKit
/-- The way back. -/
def swapW (r : SWay) : SWay := ⟨r.cls, r.yr, r.clo, wrap64 (r.opn - r.clo), r.opn⟩
theorem wayOf_swap (o c : List STri) (cl yr : Int) : wayOf c o cl yr = (wayOf o c cl yr).map swapW := by
  unfold wayOf
  by_cases h : getB o cl yr ≠ 0 ∨ getB c cl yr ≠ 0
  · rw [if_pos h, if_pos h.symm]; rfl
  · rw [if_neg h, if_neg (fun e => h e.symm)]; rfl
theorem yrsTo_swap (o c : List STri) (cl : Int) : ∀ n, yrsTo c o cl n = (yrsTo o c cl n).map swapW
  | 0 => rfl
  | n + 1 => by simp only [yrsTo, List.map_append, yrsTo_swap o c cl n, wayOf_swap o c]
theorem clsTo_swap (o c : List STri) : ∀ n, clsTo c o n = (clsTo o c n).map swapW
  | 0 => rfl
  | n + 1 => by simp only [clsTo, List.map_append, clsTo_swap o c n, yrsTo_swap o c]
theorem refFwd_swap (o c : List STri) : refFwd c o = (refFwd o c).map swapW := clsTo_swap o c 9
/-- What a row of two registers is. -/
theorem row_of {o c : List STri} {r : SWay} (h : r ∈ refFwd o c) : (r.opn ≠ 0 ∨ r.clo ≠ 0) ∧ r.opn = getB o r.cls r.yr ∧ r.clo = getB c r.cls r.yr ∧ r.mov = wrap64 (r.clo - r.opn) ∧ 1 ≤ r.cls ∧ r.cls ≤ 9 ∧ 0 ≤ r.yr ∧ r.yr ≤ 99 := by
  obtain ⟨k, y, hk, hy, hx⟩ := mem_clsTo.1 h
  obtain ⟨hne, rfl⟩ := mem_wayOf.1 hx
  exact ⟨hne, rfl, rfl, rfl, by show 1 ≤ (k : Int) + 1; omega, by show (k : Int) + 1 ≤ 9; omega, by show 0 ≤ (y : Int); omega, by show (y : Int) ≤ 99; omega⟩
theorem wrap64_small {n : Int} (h : -9223372036854775808 ≤ n ∧ n ≤ 9223372036854775807) : wrap64 n = n := by unfold wrap64; omega
theorem row_good {o c : List STri} (go : GoodR o) (gc : GoodR c) {r : SWay} (h : r ∈ refFwd o c) : (-100000000000 ≤ r.opn ∧ r.opn ≤ 100000000000) ∧ (-100000000000 ≤ r.clo ∧ r.clo ≤ 100000000000) ∧ r.mov = r.clo - r.opn := by
  obtain ⟨_, h1, h2, h3, _⟩ := row_of h
  have g1 := go.get r.cls r.yr
  have g2 := gc.get r.cls r.yr
  rw [← h1] at g1
  rw [← h2] at g2
  exact ⟨g1, g2, by rw [h3, wrap64_small (by omega)]⟩
theorem rising_ref (o c : List STri) : Rising ordPair wkey (refFwd o c) := rising_cls 9
/-- A bucket's row, of two registers. -/
theorem find_ref {o c : List STri} (cl yr : Int) (h : getB o cl yr ≠ 0 ∨ getB c cl yr ≠ 0) (hr : 1 ≤ cl ∧ cl ≤ 9 ∧ 0 ≤ yr ∧ yr ≤ 99) : find wkey (cl, yr) (refFwd o c) = some ⟨cl, yr, getB o cl yr, wrap64 (getB c cl yr - getB o cl yr), getB c cl yr⟩ := by
  refine find_mem (o := ordPair) (rising_ref o c) (y := ⟨cl, yr, getB o cl yr, wrap64 (getB c cl yr - getB o cl yr), getB c cl yr⟩) ?_
  refine mem_clsTo.2 ⟨(cl - 1).toNat, yr.toNat, by omega, by omega, ?_⟩
  have e1 : (((cl - 1).toNat : Nat) : Int) + 1 = cl := by omega
  have e2 : ((yr.toNat : Nat) : Int) = yr := by omega
  rw [e1, e2, mem_wayOf]
  exact ⟨h, rfl⟩
theorem find_ref_none {o c : List STri} (cl yr : Int) (h : ¬(getB o cl yr ≠ 0 ∨ getB c cl yr ≠ 0)) : find wkey (cl, yr) (refFwd o c) = none := by
  refine find_miss fun r hr e => ?_
  obtain ⟨hne, h1, h2, _⟩ := row_of hr
  simp only [wkey, Prod.mk.injEq] at e
  rw [h1, h2, e.1, e.2] at hne
  exact h hne
/-- What a bucket moved: the first row of it. -/
def mvAt (rows : List SWay) (cl yr : Int) : Int := match find wkey (cl, yr) rows with | some r => r.mov | none => 0
theorem mvAt_ref {o c : List STri} (go : GoodR o) (gc : GoodR c) (cl yr : Int) (hr : 1 ≤ cl ∧ cl ≤ 9 ∧ 0 ≤ yr ∧ yr ≤ 99) : mvAt (refFwd o c) cl yr = getB c cl yr - getB o cl yr := by
  have g1 := go.get cl yr
  have g2 := gc.get cl yr
  unfold mvAt
  by_cases h : getB o cl yr ≠ 0 ∨ getB c cl yr ≠ 0
  · rw [find_ref cl yr h hr]; exact wrap64_small (by omega)
  · rw [find_ref_none cl yr h]; show (0 : Int) = _; omega
/-- The opening's buckets are those of the rows. -/
def opnB (r : SWay) : STri := ⟨r.cls, r.yr, r.opn⟩
def cloB (r : SWay) : STri := ⟨r.cls, r.yr, r.clo⟩
theorem rows_opn {o c : List STri} (go : GoodR o) : ((refFwd o c).filter fun r => !decide (r.opn = 0)).map opnB = o := by
  refine Rising.ext ordPair rkey ?_ go.rise fun x => ?_
  · unfold Rising
    rw [List.pairwise_map]
    exact (rising_ref o c).filter _ _ _
  · rw [List.mem_map]
    constructor
    · rintro ⟨r, hr, rfl⟩
      obtain ⟨h1, h2⟩ := List.mem_filter.1 hr
      obtain ⟨_, e1, _⟩ := row_of h1
      have h2' : r.opn ≠ 0 := by simpa using h2
      unfold getB at e1
      cases hf : find rkey (r.cls, r.yr) o with
      | none => rw [hf] at e1; exact absurd e1 h2'
      | some b =>
        rw [hf] at e1
        obtain ⟨m1, m2⟩ := find_some hf
        have : opnB r = b := by
          simp only [rkey, Prod.mk.injEq] at m2
          show (⟨r.cls, r.yr, r.opn⟩ : STri) = b
          rw [← m2.1, ← m2.2, show r.opn = b.c from e1]
        rw [this]; exact m1
    · intro hx
      have hn := go.nz x hx
      have hb := go.rng x hx
      have hg : getB o x.a x.b = x.c := by unfold getB; rw [show ((x.a, x.b) : Int × Int) = rkey x from rfl, find_mem (o := ordPair) go.rise hx]
      have hb' : 1 ≤ x.a ∧ x.a ≤ 9 ∧ 0 ≤ x.b ∧ x.b ≤ 99 := by simpa [bucketOk] using hb
      obtain ⟨m1, m2⟩ := find_some (find_ref (o := o) (c := c) x.a x.b (.inl (by rw [hg]; exact hn)) hb')
      refine ⟨_, List.mem_filter.2 ⟨m1, by simpa [hg] using hn⟩, ?_⟩
      show (⟨x.a, x.b, getB o x.a x.b⟩ : STri) = x
      rw [hg]
theorem rows_clo {o c : List STri} (gc : GoodR c) : ((refFwd o c).filter fun r => !decide (r.clo = 0)).map cloB = c := by
  have h := rows_opn (c := o) gc
  rw [refFwd_swap o c, List.filter_map, List.map_map] at h
  exact h
theorem sum_filter (f : SWay → Int) : ∀ l : List SWay, ((l.filter fun r => !decide (f r = 0)).map f).sum = (l.map f).sum
  | [] => rfl
  | r :: l => by
    have ih := sum_filter f l
    by_cases h : f r = 0
    · simp [h, ih]
    · simp [h, ih]
theorem sum_opn {o c : List STri} (go : GoodR o) : ((refFwd o c).map (·.opn)).sum = sumC o := by
  have h := rows_opn (c := c) go
  rw [← sum_filter]
  conv => rhs; rw [← h]
  unfold sumC
  rw [List.map_map]; rfl
theorem sum_clo {o c : List STri} (gc : GoodR c) : ((refFwd o c).map (·.clo)).sum = sumC c := by
  have h := rows_clo (o := o) gc
  rw [← sum_filter]
  conv => rhs; rw [← h]
  unfold sumC
  rw [List.map_map]; rfl
theorem len_same {o : List STri} (go : GoodR o) : (refFwd o o).length = o.length := by
  have h := rows_opn (c := o) go
  have e : (refFwd o o).filter (fun r => !decide (r.opn = 0)) = refFwd o o := List.filter_eq_self.2 fun r hr => by
    obtain ⟨hne, h1, h2, _⟩ := row_of hr
    have : r.opn ≠ 0 := by rcases hne with h | h
                           · exact h
                           · rw [h1, ← h2]; exact h
    simpa using this
  rw [e] at h
  conv => rhs; rw [← h]
  rw [List.length_map]
theorem len_ref {o c : List STri} (go : GoodR o) (gc : GoodR c) : (refFwd o c).length ≤ 24 := by
  have h1 := congrArg List.length (rows_opn (c := c) go)
  have h2 := congrArg List.length (rows_clo (o := o) gc)
  rw [List.length_map] at h1 h2
  have l1 := go.len
  have l2 := gc.len
  have key : ∀ l : List SWay, (∀ r ∈ l, r.opn ≠ 0 ∨ r.clo ≠ 0) → l.length ≤ (l.filter fun r => !decide (r.opn = 0)).length + (l.filter fun r => !decide (r.clo = 0)).length := by
    intro l
    induction l with
    | nil => intro _; simp
    | cons r l ih =>
      intro h
      have := ih fun x hx => h x (by simp [hx])
      have hr := h r (by simp)
      by_cases a : r.opn = 0 <;> by_cases b : r.clo = 0 <;> simp [a, b] at hr ⊢ <;> omega
  have := key (refFwd o c) fun r hr => (row_of hr).1
  omega
/-- All movements come to what the sums moved. -/
theorem fold_sum (f : SWay → Int) : ∀ (l : List SWay) (s : Int), l.foldl (fun s r => wrap64 (s + f r)) s = if l = [] then s else wrap64 (s + (l.map f).sum)
  | [], s => by simp
  | r :: l, s => by
    rw [List.foldl_cons, fold_sum f l]
    by_cases h : l = []
    · subst h; simp
    · rw [if_neg h, if_neg (by simp)]
      simp only [List.map_cons, List.sum_cons]
      unfold wrap64; omega
theorem fold_sum0 (f : SWay → Int) (l : List SWay) (hb : -9223372036854775808 ≤ (l.map f).sum ∧ (l.map f).sum ≤ 9223372036854775807) : l.foldl (fun s r => wrap64 (s + f r)) 0 = (l.map f).sum := by
  rw [fold_sum]
  split
  · rename_i h; subst h; rfl
  · rw [Int.zero_add]; exact wrap64_small hb
theorem sum_mov : ∀ l : List SWay, (∀ r ∈ l, r.mov = r.clo - r.opn) → (l.map (·.mov)).sum = (l.map (·.clo)).sum - (l.map (·.opn)).sum
  | [], _ => rfl
  | r :: l, h => by
    have := sum_mov l fun x hx => h x (by simp [hx])
    have h0 := h r (by simp)
    simp only [List.map_cons, List.sum_cons]; omega
theorem movSum_ref {o c : List STri} (go : GoodR o) (gc : GoodR c) : movSum (refFwd o c) = sumC c - sumC o := by
  have e := sum_mov (refFwd o c) fun r hr => (row_good go gc hr).2.2
  rw [sum_opn go, sum_clo gc] at e
  have b1 := go.sum
  have b2 := gc.sum
  have : movSum (refFwd o c) = ((refFwd o c).map (·.mov)).sum := fold_sum0 (·.mov) _ (by omega)
  rw [this, e]
/-- Classes of rising rows: each row goes to the last class, or behind it. -/
theorem ups_last {f : SWay → SWay} {c y : Int} : ∀ {G : List SWay} {g : SWay}, (∀ x ∈ G, wkey x ≠ (c, y)) → wkey g = (c, y) → ups f c y (G ++ [g]) = G ++ [f g]
  | [], g, _, h => by simp [ups, h]
  | x :: G, g, hn, h => by
    have := ups_last (f := f) (G := G) (fun z hz => hn z (by simp [hz])) h
    simp only [List.cons_append, ups, if_neg (hn x (by simp)), this]
theorem ups_miss {f : SWay → SWay} {c y : Int} : ∀ {G : List SWay}, (∀ x ∈ G, wkey x ≠ (c, y)) → ups f c y G = G ++ [f ⟨c, y, 0, 0, 0⟩]
  | [], _ => rfl
  | x :: G, hn => by
    have := ups_miss (f := f) (c := c) (y := y) (G := G) fun z hz => hn z (by simp [hz])
    simp only [List.cons_append, ups, if_neg (hn x (by simp)), this]
/-- Classes rise, and are at most so great. -/
def ClsUpto (G : List SWay) (m : Int) : Prop := (G.Pairwise fun x y => x.cls < y.cls) ∧ ∀ x ∈ G, x.cls ≤ m ∧ x.yr = -1
theorem ClsUpto.mono {G : List SWay} {m n : Int} (h : ClsUpto G m) (hm : m ≤ n) : ClsUpto G n := ⟨h.1, fun x hx => ⟨Int.le_trans (h.2 x hx).1 hm, (h.2 x hx).2⟩⟩
theorem clsStep_app {G : List SWay} {m : Int} (h : ClsUpto G m) {x : SWay} (hx : m ≤ x.cls) (hl : ∀ g, G.getLast? = some g → g.cls ≠ x.cls) (hw : (wrap64 x.opn = x.opn ∧ wrap64 x.mov = x.mov) ∧ wrap64 x.clo = x.clo) :
    clsStep G x = G ++ [⟨x.cls, -1, x.opn, x.mov, x.clo⟩] ∧ ClsUpto (clsStep G x) x.cls := by
  have hlt : ∀ y ∈ G, y.cls < x.cls := by
    intro y hy
    cases hg : G.getLast? with
    | none => rw [List.getLast?_eq_none_iff] at hg; subst hg; cases hy
    | some g =>
      obtain ⟨G', rfl⟩ := List.getLast?_eq_some_iff.1 hg
      have h1 := hl g hg
      have h2 := (h.2 g (by simp)).1
      rcases List.mem_append.1 hy with hy | hy
      · have := (List.pairwise_append.1 h.1).2.2 y hy g (by simp); omega
      · simp at hy; subst hy; omega
  have e : clsStep G x = G ++ [⟨x.cls, -1, x.opn, x.mov, x.clo⟩] := by
    unfold clsStep
    rw [ups_miss fun y hy e => by
      have := hlt y hy; simp only [wkey, Prod.mk.injEq] at e; omega]
    simp only [addR, Int.zero_add, hw.1.1, hw.1.2, hw.2]
  refine ⟨e, ?_⟩
  rw [e]
  refine ⟨List.pairwise_append.2 ⟨h.1, by simp, fun y hy z hz => ?_⟩, fun y hy => ?_⟩
  · simp at hz; subst hz; exact hlt y hy
  · rcases List.mem_append.1 hy with hy | hy
    · have := hlt y hy; exact ⟨by omega, (h.2 y hy).2⟩
    · simp at hy; subst hy; exact ⟨Int.le_refl _, rfl⟩
theorem clsStep_last {G : List SWay} {g : SWay} {m : Int} (h : ClsUpto (G ++ [g]) m) {x : SWay} (hg : g.cls = x.cls) : clsStep (G ++ [g]) x = G ++ [addR x g] ∧ ClsUpto (clsStep (G ++ [g]) x) x.cls := by
  have hy := (h.2 g (by simp)).2
  have hlt := (List.pairwise_append.1 h.1).2.2
  have e : clsStep (G ++ [g]) x = G ++ [addR x g] := by
    unfold clsStep
    exact ups_last (fun y hy e => by
      have := hlt y hy g (by simp); simp only [wkey, Prod.mk.injEq] at e; omega) (by simp [wkey, hg, hy])
  refine ⟨e, ?_⟩
  rw [e]
  have h1 := (List.pairwise_append.1 h.1).1
  refine ⟨List.pairwise_append.2 ⟨h1, by simp, fun y hy' z hz => ?_⟩, fun y hy' => ?_⟩
  · simp at hz; subst hz; exact hlt y hy' g (by simp)
  · rcases List.mem_append.1 hy' with hy' | hy'
    · have := hlt y hy' g (by simp)
      exact ⟨by omega, (h.2 y (by simp [hy'])).2⟩
    · simp at hy'; subst hy'; exact ⟨by show g.cls ≤ _; omega, hy⟩
theorem ClsUpto.nil (m : Int) : ClsUpto [] m := ⟨List.Pairwise.nil, by simp⟩
theorem isort_rising_id {l : List SWay} (h : Rising ordPair wkey l) : isort ordPair wkey l = l :=
  Rising.ext ordPair wkey (isort_rising l) h fun _ => mem_isort (h.imp fun hxy => ordPair.ne hxy)
theorem ClsUpto.rising {G : List SWay} {m : Int} (h : ClsUpto G m) : Rising ordPair wkey G := h.1.imp fun hxy => by
  simp [ordPair, wkey, hxy]
/-- Opening and movement are closing, in classes too. -/
def Closes (r : SWay) : Prop := wrap64 (r.opn + r.mov) = r.clo
theorem closes_ups {x : SWay} (hx : Closes x) {c y : Int} : ∀ {G : List SWay}, (∀ r ∈ G, Closes r) → ∀ r ∈ ups (addR x) c y G, Closes r
  | [], _, r, hr => by
    simp [ups] at hr; subst hr
    unfold Closes addR at *
    rw [← hx]; unfold wrap64; simp only; omega
  | g :: G, h, r, hr => by
    have hg := h g (by simp)
    unfold ups at hr
    split at hr
    · rcases List.mem_cons.1 hr with rfl | hr
      · unfold Closes addR at *
        rw [← hx, ← hg]; unfold wrap64; simp only; omega
      · exact h r (by simp [hr])
    · rcases List.mem_cons.1 hr with rfl | hr
      · exact hg
      · exact closes_ups hx (fun z hz => h z (by simp [hz])) r hr
theorem closes_fold : ∀ (l G : List SWay), (∀ r ∈ l, Closes r) → (∀ r ∈ G, Closes r ∧ r.yr = -1) → ∀ r ∈ l.foldl clsStep G, Closes r ∧ r.yr = -1
  | [], _, _, h, r, hr => h r hr
  | x :: l, G, hl, h, r, hr => by
    refine closes_fold l (clsStep G x) (fun z hz => hl z (by simp [hz])) (fun z hz => ⟨closes_ups (hl x (by simp)) (fun q hq => (h q hq).1) z hz, ?_⟩) r hr
    rcases mem_ups hz with hz | ⟨q, hq, rfl⟩
    · exact (h z hz).2
    · simp only [wkey, Prod.mk.injEq] at hq; exact hq.2
theorem closes_classes {l : List SWay} (h : ∀ r ∈ l, Closes r) : ∀ r ∈ classes l, Closes r ∧ r.yr = -1 := fun r hr =>
  closes_fold l [] h (by simp) r ((mem_isort (cls_dist l [] List.Pairwise.nil)).1 hr)
end Go.Sl
end
