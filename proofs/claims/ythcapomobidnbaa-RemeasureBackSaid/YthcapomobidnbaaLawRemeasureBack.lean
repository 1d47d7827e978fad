/- The law RemeasureBack: for every input it returns true, and its arguments read behind the call as before it. No conditions. -/
import Derived.Test.YthcapomobidnbaaPk6
import Derived.Deep.RegionHeld3
section
/- Plain facts for RemeasureBack. -/
namespace Go.Sl
open Go Go.RowKit
def mkB (f : Nat → Int) : Nat → List STri
  | 0 => []
  | n + 1 => mkB f n ++ (if f n = 0 then [] else [⟨1, n, f n⟩])
def rowsB (f g : Nat → Int) : Nat → List SWay
  | 0 => []
  | n + 1 => rowsB f g n ++ (if f n = 0 ∧ g n = 0 then [] else [⟨1, n, f n, wrap64 (g n - f n), g n⟩])
theorem mem_mkB {f : Nat → Int} {x : STri} : ∀ {n : Nat}, x ∈ mkB f n ↔ ∃ i, i < n ∧ f i ≠ 0 ∧ x = ⟨1, i, f i⟩
  | 0 => by simp [mkB]
  | n + 1 => by
    rw [mkB, List.mem_append, mem_mkB (n := n)]
    constructor
    · rintro (⟨i, h, e⟩ | h)
      · exact ⟨i, by omega, e⟩
      · split at h
        · cases h
        · rename_i h0; simp at h; exact ⟨n, by omega, h0, h⟩
    · rintro ⟨i, h, h0, e⟩
      by_cases hi : i = n
      · subst hi; right; rw [if_neg h0]; simp [e]
      · exact .inl ⟨i, by omega, h0, e⟩
theorem mem_rowsB {f g : Nat → Int} {x : SWay} : ∀ {n : Nat}, x ∈ rowsB f g n ↔ ∃ i, i < n ∧ ¬(f i = 0 ∧ g i = 0) ∧ x = ⟨1, i, f i, wrap64 (g i - f i), g i⟩
  | 0 => by simp [rowsB]
  | n + 1 => by
    rw [rowsB, List.mem_append, mem_rowsB (n := n)]
    constructor
    · rintro (⟨i, h, e⟩ | h)
      · exact ⟨i, by omega, e⟩
      · split at h
        · cases h
        · rename_i h0; simp at h; exact ⟨n, by omega, h0, h⟩
    · rintro ⟨i, h, h0, e⟩
      by_cases hi : i = n
      · subst hi; right; rw [if_neg h0]; simp [e]
      · exact .inl ⟨i, by omega, h0, e⟩
theorem rising_mkB (f : Nat → Int) : ∀ n, RisingR (mkB f n)
  | 0 => List.Pairwise.nil
  | n + 1 => by
    refine List.pairwise_append.2 ⟨rising_mkB f n, by split <;> simp, fun x hx y hy => ?_⟩
    obtain ⟨i, hi, _, rfl⟩ := mem_mkB.1 hx
    split at hy
    · cases hy
    · simp at hy; subst hy; simp [ordPair, rkey]; omega
theorem rising_rowsB (f g : Nat → Int) : ∀ n, Rising ordPair wkey (rowsB f g n)
  | 0 => List.Pairwise.nil
  | n + 1 => by
    refine List.pairwise_append.2 ⟨rising_rowsB f g n, by split <;> simp, fun x hx y hy => ?_⟩
    obtain ⟨i, hi, _, rfl⟩ := mem_rowsB.1 hx
    split at hy
    · cases hy
    · simp at hy; subst hy; simp [ordPair, wkey]; omega
theorem len_mkB (f : Nat → Int) : ∀ n, (mkB f n).length ≤ n
  | 0 => by simp [mkB]
  | n + 1 => by
    have := len_mkB f n
    rw [mkB, List.length_append]; split <;> simp <;> omega
theorem len_rowsB (f g : Nat → Int) : ∀ n, (rowsB f g n).length ≤ n
  | 0 => by simp [rowsB]
  | n + 1 => by
    have := len_rowsB f g n
    rw [rowsB, List.length_append]; split <;> simp <;> omega
theorem good_mkB {f : Nat → Int} (hf : ∀ i, -1000 ≤ f i ∧ f i ≤ 1000) {n : Nat} (hn : n ≤ 6) : GoodR (mkB f n) := by
  refine ⟨rising_mkB f n, fun b hb => ?_, fun b hb => ?_, fun b hb => ?_, by have := len_mkB f n; omega⟩
  all_goals obtain ⟨i, hi, h0, rfl⟩ := mem_mkB.1 hb
  · exact h0
  · have := hf i; simp [money]; omega
  · simp [bucketOk]; omega
theorem getB_mkB {f : Nat → Int} {n i : Nat} (hi : i < n) : getB (mkB f n) 1 i = f i := by
  by_cases h0 : f i = 0
  · rw [h0]
    cases hf : find rkey ((1, (i : Int)) : Int × Int) (mkB f n) with
    | none => exact getB_none hf
    | some b =>
      obtain ⟨m1, m2⟩ := find_some hf
      obtain ⟨k, hk, hne, rfl⟩ := mem_mkB.1 m1
      simp [rkey] at m2
      have : k = i := by omega
      subst this; exact absurd h0 hne
  · have := find_mem (o := ordPair) (rising_mkB f n) (mem_mkB.2 ⟨i, hi, h0, rfl⟩)
    exact getB_some this
theorem getB_mkB_out {f : Nat → Int} {n : Nat} {c y : Int} (h : ∀ i, i < n → ¬(c = 1 ∧ y = i)) : getB (mkB f n) c y = 0 := by
  cases hf : find rkey ((c, y) : Int × Int) (mkB f n) with
  | none => exact getB_none hf
  | some b =>
    obtain ⟨m1, m2⟩ := find_some hf
    obtain ⟨k, hk, hne, rfl⟩ := mem_mkB.1 m1
    simp [rkey] at m2
    exact absurd ⟨m2.1.symm, m2.2.symm⟩ (h k hk)
theorem refFwd_mkB (f g : Nat → Int) {n : Nat} (hn : n ≤ 6) : refFwd (mkB f n) (mkB g n) = rowsB f g n := by
  refine Rising.ext ordPair wkey (rising_ref _ _) (rising_rowsB f g n) fun x => ?_
  constructor
  · intro hx
    obtain ⟨hne, h1, h2, h3, _⟩ := row_of hx
    by_cases hk : ∃ i, i < n ∧ x.cls = 1 ∧ x.yr = i
    · obtain ⟨i, hi, hc, hy⟩ := hk
      rw [hc, hy, getB_mkB hi] at h1 h2
      refine mem_rowsB.2 ⟨i, hi, by omega, ?_⟩
      rw [h1, h2] at h3
      cases x
      simp at hc hy h1 h2 h3
      simp [hc, hy, h1, h2, h3]
    · have hk' : ∀ i, i < n → ¬(x.cls = 1 ∧ x.yr = i) := fun i hi h => hk ⟨i, hi, h.1, h.2⟩
      rw [getB_mkB_out hk'] at h1 h2
      omega
  · intro hx
    obtain ⟨i, hi, h0, rfl⟩ := mem_rowsB.1 hx
    have h1 := getB_mkB (f := f) hi
    have h2 := getB_mkB (f := g) hi
    have := find_ref (o := mkB f n) (c := mkB g n) 1 i (by rw [h1, h2]; omega) (by omega)
    rw [h1, h2] at this
    exact (find_some this).1
theorem ofVal_small {v r : Int} (hv : -1000 ≤ v ∧ v ≤ 1000) (hr : 0 ≤ r ∧ r ≤ 1000000) : -1001 ≤ ofVal v r ∧ ofVal v r ≤ 1001 := by
  have hok : ofOk v r = true := by simp [ofOk]; omega
  have e := partOf_err v r hr.1
  unfold ofVal
  rw [if_pos hok]
  have h1 : v * r ≤ 1000000000 := by
    rcases Int.le_total 0 v with h | h
    · have := Int.mul_le_mul hv.2 hr.2 hr.1 (by omega : (0 : Int) ≤ 1000); omega
    · have := Int.mul_nonneg (show 0 ≤ -v by omega) hr.1
      rw [Int.neg_mul] at this; omega
  have h2 : -1000000000 ≤ v * r := by
    rcases Int.le_total 0 v with h | h
    · have := Int.mul_nonneg h hr.1; omega
    · have := Int.mul_le_mul (show -v ≤ 1000 by omega) hr.2 hr.1 (by omega : (0 : Int) ≤ 1000)
      rw [Int.neg_mul] at this; omega
  omega
theorem sumOp_small {r : Int} (hr : 0 ≤ r ∧ r ≤ 1000000) : ∀ (rows : List SWay), (∀ x ∈ rows, -1000 ≤ x.opn ∧ x.opn ≤ 1000) → ∀ m, -(rows.length * 1001) ≤ sumOp rows (List.replicate m r) ∧ sumOp rows (List.replicate m r) ≤ rows.length * 1001
  | [], _, _ => by simp [sumOp]
  | x :: rows, h, 0 => by simp only [List.replicate_zero, sumOp, List.length_cons]; omega
  | x :: rows, h, m + 1 => by
    have ih := sumOp_small hr rows (fun z hz => h z (by simp [hz])) m
    have := ofVal_small (h x (by simp)) hr
    simp only [List.replicate_succ, sumOp, List.length_cons]; omega
theorem sumCl_swap : ∀ (rows : List SWay) (ns : List Int), sumCl (rows.map swapW) ns = sumOp rows ns
  | [], _ => by simp [sumCl, sumOp]
  | _ :: _, [] => by simp [sumCl, sumOp]
  | r :: rows, n :: ns => by simp [sumCl, sumOp, sumCl_swap rows ns, swapW]
theorem sumOp_swap : ∀ (rows : List SWay) (ns : List Int), sumOp (rows.map swapW) ns = sumCl rows ns
  | [], _ => by simp [sumCl, sumOp]
  | _ :: _, [] => by simp [sumCl, sumOp]
  | r :: rows, n :: ns => by simp [sumCl, sumOp, sumOp_swap rows ns, swapW]
theorem sumCl_small {r : Int} (hr : 0 ≤ r ∧ r ≤ 1000000) (rows : List SWay) (h : ∀ x ∈ rows, -1000 ≤ x.clo ∧ x.clo ≤ 1000) (m : Nat) : -(rows.length * 1001) ≤ sumCl rows (List.replicate m r) ∧ sumCl rows (List.replicate m r) ≤ rows.length * 1001 := by
  rw [← sumOp_swap]
  have := sumOp_small hr (rows.map swapW) (fun x hx => by
    obtain ⟨y, hy, rfl⟩ := List.mem_map.1 hx; exact h y hy) m
  simpa using this
/-- One way. -/
theorem back_one {rows : List SWay} (hl : rows.length ≤ 6) (hb : ∀ x ∈ rows, (-1000 ≤ x.opn ∧ x.opn ≤ 1000) ∧ (-1000 ≤ x.clo ∧ x.clo ≤ 1000)) {o n : Int} (ho : 0 ≤ o ∧ o ≤ 1000000) (hn : 0 ≤ n ∧ n ≤ 1000000) {m : Nat} (hm : rows.length = m) :
    remE rows (List.replicate m o) (List.replicate m n) = 0 ∧ (-100000 ≤ remMo rows (List.replicate m o) (List.replicate m n) ∧ remMo rows (List.replicate m o) (List.replicate m n) ≤ 100000) ∧ (-100000 ≤ remRa rows (List.replicate m o) (List.replicate m n) ∧ remRa rows (List.replicate m o) (List.replicate m n) ≤ 100000) ∧
      remMo rows (List.replicate m o) (List.replicate m n) + remRa rows (List.replicate m o) (List.replicate m n) = sumCl rows (List.replicate m n) - sumOp rows (List.replicate m o) := by
  have l1 : (List.replicate m o).length = rows.length := by simp [hm]
  have l2 : (List.replicate m n).length = rows.length := by simp [hm]
  have s1 := sumOp_small ho rows (fun x hx => (hb x hx).1) m
  have s2 := sumOp_small hn rows (fun x hx => (hb x hx).1) m
  have s3 := sumCl_small hn rows (fun x hx => (hb x hx).2) m
  have e1 := sumM_eq rows (List.replicate m n)
  have e2 := sumR_eq rows _ _ l1 l2
  have ha : remAll rows (List.replicate m o) (List.replicate m n) = true := remAll_of (fun x hx => by
    have := hb x hx; exact ⟨by simp [money]; omega, by simp [money]; omega⟩) (fun x hx => by rw [List.eq_of_mem_replicate hx]; simp [rightRate]; omega) (fun x hx => by rw [List.eq_of_mem_replicate hx]; simp [rightRate]; omega)
  obtain ⟨h1, h2, h3⟩ := remE_ok l1 l2 ha (by simp [money]; omega) (by simp [money]; omega)
  rw [h2, h3]
  exact ⟨h1, by omega, by omega, by omega⟩
/-- There, and back. -/
theorem back_both {rows : List SWay} (hl : rows.length ≤ 6) (hb : ∀ x ∈ rows, (-1000 ≤ x.opn ∧ x.opn ≤ 1000) ∧ (-1000 ≤ x.clo ∧ x.clo ≤ 1000)) {o n : Int} (ho : 0 ≤ o ∧ o ≤ 1000000) (hn : 0 ≤ n ∧ n ≤ 1000000) {m : Nat} (hm : rows.length = m) :
    ∃ M R M2 R2 : Int, remE rows (List.replicate m o) (List.replicate m n) = 0 ∧ remMo rows (List.replicate m o) (List.replicate m n) = M ∧ remRa rows (List.replicate m o) (List.replicate m n) = R ∧
      remE (rows.map swapW) (List.replicate m n) (List.replicate m o) = 0 ∧ remMo (rows.map swapW) (List.replicate m n) (List.replicate m o) = M2 ∧ remRa (rows.map swapW) (List.replicate m n) (List.replicate m o) = R2 ∧
      (-100000 ≤ M ∧ M ≤ 100000) ∧ (-100000 ≤ R ∧ R ≤ 100000) ∧ (-100000 ≤ M2 ∧ M2 ≤ 100000) ∧ (-100000 ≤ R2 ∧ R2 ≤ 100000) ∧ M2 + R2 = -(M + R) := by
  obtain ⟨a1, a2, a3, a4⟩ := back_one hl hb ho hn hm
  obtain ⟨b1, b2, b3, b4⟩ := back_one (rows := rows.map swapW) (by simpa using hl) (fun x hx => by
    obtain ⟨y, hy, rfl⟩ := List.mem_map.1 hx; exact ⟨(hb y hy).2, (hb y hy).1⟩) hn ho (m := m) (by simpa using hm)
  rw [sumCl_swap, sumOp_swap] at b4
  exact ⟨_, _, _, _, a1, rfl, rfl, b1, rfl, rfl, a2, a3, b2, b3, by omega⟩
theorem rowsB_bd {f g : Nat → Int} (hf : ∀ i, -1000 ≤ f i ∧ f i ≤ 1000) (hg : ∀ i, -1000 ≤ g i ∧ g i ≤ 1000) {n : Nat} : ∀ x ∈ rowsB f g n, (-1000 ≤ x.opn ∧ x.opn ≤ 1000) ∧ (-1000 ≤ x.clo ∧ x.clo ≤ 1000) := fun x hx => by
  obtain ⟨i, _, _, rfl⟩ := mem_rowsB.1 hx; exact ⟨hf i, hg i⟩
def amtF (zs : List Int) (i : Nat) : Int := match zs[i]? with | some z => within z 2001 - 1000 | none => 0
theorem amtF_bd (zs : List Int) (i : Nat) : -1000 ≤ amtF zs i ∧ amtF zs i ≤ 1000 := by
  unfold amtF
  split
  · rename_i z _
    have h1 := within_lo z (n := 2001) (by omega)
    have h2 := within_hi z (n := 2001) (by omega)
    omega
  · omega
end Go.Sl
end
section
/- The walk of law17.RemeasureBack. -/
namespace Go.Proofs.Ythcapomobidnbaa
open Go.RowKit Go.Sl
set_option maxHeartbeats 4000000
set_option maxRecDepth 100000
theorem remeasureBack_calls (A B : Option Addr) (ca cb : Nat) (za zb : List Int) (old0 now0 : Int) (h1 h2 : Hp) (w : World) (hs1 : h1.sub w) (hs2 : h2.sub w) (s1 : Sl kInt h1 A ca za) (s2 : Sl kInt h2 B cb zb) :
    Calls Try.prog 8 #[.slice A za.length ca, .slice B zb.length cb, .int .i64 old0, .int .i64 now0] w fun e w' => e = .returned (.bool true) ∧ Below w.heap.size w w' := by
  have m1 := s1.small
  have m2 := s2.small
  have ho : 0 ≤ within old0 1000001 ∧ within old0 1000001 ≤ 1000000 := by
    have a := within_lo old0 (n := 1000001) (by omega)
    have b := within_hi old0 (n := 1000001) (by omega)
    omega
  have hn : 0 ≤ within now0 1000001 ∧ within now0 1000001 ≤ 1000000 := by
    have a := within_lo now0 (n := 1000001) (by omega)
    have b := within_hi now0 (n := 1000001) (by omega)
    omega
  have WO := fun W => within_calls old0 1000001 W (by omega) (by omega)
  have WN := fun W => within_calls now0 1000001 W (by omega) (by omega)
  generalize within old0 1000001 = old at *
  generalize within now0 1000001 = now at *
  have hf := Lib.hid (amtF_bd za)
  have hg := Lib.hid (amtF_bd zb)
  have E0 := ((Env.start w).new (Upd.of_below (Below.refl _ _))).new (Upd.of_below (Below.refl _ _))
  simp at E0
  go_enter Try.func8, Try.ntmps8
  go_wp2_with fail
  refine (WO _).mono ?_
  rintro e w' ⟨rfl, rfl⟩
  go_wp2_with fail
  refine (WN _).mono ?_
  rintro e w' ⟨rfl, rfl⟩
  clear WO WN
  go_wp2
  go_loopw [9, 10, 11, 12, 13, 14] (fun vx vy nv i a0 b0 wr => ∃ (j p q m cx cy : Nat) (CX CY : Option Addr) (hx hy : Hp), j ≤ za.length ∧ j ≤ 6 ∧ i = .int .i64 j ∧ vx = .slice CX p cx ∧ vy = .slice CY q cy ∧ nv = .int .i64 m ∧ Hid ((mkB (amtF za) j).length = p) ∧ Hid ((mkB (amtF zb) j).length = q) ∧ Hid ((rowsB (amtF za) (amtF zb) j).length = m) ∧ p ≤ j ∧ q ≤ j ∧ m ≤ j ∧
    Ow kTri hx CX cx (mkB (amtF za) j) ∧ Ow kTri hy CY cy (mkB (amtF zb) j) ∧ Env w wr [hx, hy]) (fun _ _ _ i _ _ _ => 6 - (intOf i).toNat)
  case atStart => exact ⟨0, 0, 0, 0, 0, 0, none, none, Hp.none, Hp.none, by omega, by omega, rfl, rfl, rfl, rfl, rfl, rfl, rfl, by omega, by omega, by omega, Ow.none _ _, Ow.none _ _, E0⟩
  case round =>
    clear E0
    obtain ⟨j, p, q, m, cx, cy, CX, CY, hx, hy, hj, hj6, rfl, rfl, rfl, rfl, l1, l2, l3, lp, lq, lm, ox, oy, E⟩ := hrel
    by_cases hlt : j < za.length ∧ j < 6
    · obtain ⟨hlt1, hlt2⟩ := hlt
      obtain ⟨z, hzz⟩ := some_of_lt hlt1
      obtain ⟨b1, o1, rfl, c1⟩ := s1.int (hs1.of_below E.low) hzz
      have i1 : (0 : Int) ≤ (j : Int) := by omega
      have i2 : (j : Int) < (za.length : Int) := by omega
      have i3 : (j : Int) < 6 := by omega
      have ea : amtF za j = within z 2001 - 1000 := by unfold amtF; rw [hzz.out]
      have WA := fun W => within_calls z 2001 W (by omega) (by omega)
      obtain ⟨a1, a2⟩ := hf.out j
      rw [ea] at a1 a2
      have a3 : 0 ≤ within z 2001 := by omega
      have a4 : within z 2001 ≤ 2000 := by omega
      have HX0 : Hid (mkB (amtF za) (j + 1) = mkB (amtF za) j ++ (if within z 2001 - 1000 = 0 then [] else [⟨1, j, within z 2001 - 1000⟩])) := by unfold Hid; rw [mkB, ea]
      have HR0 : Hid (rowsB (amtF za) (amtF zb) (j + 1) = rowsB (amtF za) (amtF zb) j ++ (if within z 2001 - 1000 = 0 ∧ amtF zb j = 0 then [] else [⟨1, j, within z 2001 - 1000, wrap64 (amtF zb j - (within z 2001 - 1000)), amtF zb j⟩])) := by unfold Hid; rw [rowsB, ea]
      have HY0 : Hid (mkB (amtF zb) (j + 1) = mkB (amtF zb) j ++ (if amtF zb j = 0 then [] else [⟨1, j, amtF zb j⟩])) := by unfold Hid; rw [mkB]
      generalize within z 2001 = va at *
      clear ea a1 a2
      by_cases h2 : j < zb.length
      · obtain ⟨y, hyy⟩ := some_of_lt h2
        obtain ⟨b2, o2, rfl, c2⟩ := s2.int (hs2.of_below E.low) hyy
        have i4 : (j : Int) < (zb.length : Int) := by omega
        have eb : amtF zb j = within y 2001 - 1000 := by unfold amtF; rw [hyy.out]
        have WB := fun W => within_calls y 2001 W (by omega) (by omega)
        have b3 : 0 ≤ within y 2001 := within_lo y (by omega)
        have b4 : within y 2001 ≤ 2000 := by have := within_hi y (n := 2001) (by omega); omega
        rw [eb] at HR0 HY0
        generalize within y 2001 = vb at *
        clear eb
        by_cases ha : va - 1000 = 0
        · by_cases hb : vb - 1000 = 0
          · have ta : (va - 1000 != 0) = false := by simpa using ha
            have tb : (vb - 1000 != 0) = false := by simpa using hb
            rw [if_pos ha, List.append_nil] at HX0
            rw [if_pos hb, List.append_nil] at HY0
            rw [if_pos ⟨ha, hb⟩, List.append_nil] at HR0
            clear ha hb
            generalize mkB (amtF za) j = LX at *
            generalize mkB (amtF zb) j = LY at *
            generalize rowsB (amtF za) (amtF zb) j = LR at *
            go_wp2_with (first | (go_at_call 21; ((with_reducible refine (WA _).mono ?_)); rintro e w' ⟨rfl, rfl⟩) | (go_at_call 21; ((with_reducible refine (WB _).mono ?_)); rintro e w' ⟨rfl, rfl⟩))
            go_roundw
            case rel => exact ⟨j + 1, p, q, m, cx, cy, CX, CY, hx, hy, by omega, by omega, by go_num, rfl, rfl, rfl, by unfold Hid; rw [HX0.out]; exact l1.out, by unfold Hid; rw [HY0.out]; exact l2.out, by unfold Hid; rw [HR0.out]; exact l3.out, by omega, by omega, by omega, by rw [HX0.out]; exact ox, by rw [HY0.out]; exact oy, E⟩
            case measure => simp [intOf]; omega
          · have ta : (va - 1000 != 0) = false := by simpa using ha
            have tb : (vb - 1000 != 0) = true := by simpa using hb
            rw [if_pos ha, List.append_nil] at HX0
            rw [if_neg hb] at HY0
            rw [if_neg (by omega)] at HR0
            clear ha hb
            generalize mkB (amtF za) j = LX at *
            generalize mkB (amtF zb) j = LY at *
            generalize rowsB (amtF za) (amtF zb) j = LR at *
            go_wp2_with (first | (go_at_call 21; ((with_reducible refine (WA _).mono ?_)); rintro e w' ⟨rfl, rfl⟩) | (go_at_call 21; ((with_reducible refine (WB _).mono ?_)); rintro e w' ⟨rfl, rfl⟩) | (at_builtin; refine wpList_eapp 1 ⟨1, j, vb - 1000⟩ Try.underlying28 info_bucket (by repeat (first | (with_reducible exact E) | (with_reducible apply Env.drew) | (with_reducible apply Env.drewN) | (with_reducible apply Env.alloc'))) (by rfl) oy q l2.out (by rfl) (by rfl) rfl 1 (by rfl) (by rfl) (heap_new_at (by simp)) (by rfl) (by omega) (by omega) ?_; intro CY2 cy2 w6 hy2 oy2 E6))
            simp at E6
            go_roundw
            case rel => exact ⟨j + 1, p, q + 1, m + 1, cx, cy2, CX, CY2, hx, hy2, by omega, by omega, by go_num, rfl, rfl, by go_num, by unfold Hid; rw [HX0.out]; exact l1.out, by unfold Hid; rw [HY0.out]; rw [List.length_append, l2.out]; rfl, by unfold Hid; rw [HR0.out]; rw [List.length_append, l3.out]; rfl, by omega, by omega, by omega, by rw [HX0.out]; exact ox, by rw [HY0.out]; exact oy2, E6⟩
            case measure => simp [intOf]; omega
        · by_cases hb : vb - 1000 = 0
          · have ta : (va - 1000 != 0) = true := by simpa using ha
            have tb : (vb - 1000 != 0) = false := by simpa using hb
            rw [if_neg ha] at HX0
            rw [if_pos hb, List.append_nil] at HY0
            rw [if_neg (by omega)] at HR0
            clear ha hb
            generalize mkB (amtF za) j = LX at *
            generalize mkB (amtF zb) j = LY at *
            generalize rowsB (amtF za) (amtF zb) j = LR at *
            go_wp2_with (first | (go_at_call 21; ((with_reducible refine (WA _).mono ?_)); rintro e w' ⟨rfl, rfl⟩) | (go_at_call 21; ((with_reducible refine (WB _).mono ?_)); rintro e w' ⟨rfl, rfl⟩) | (at_builtin; refine wpList_eapp 0 ⟨1, j, va - 1000⟩ Try.underlying28 info_bucket (by repeat (first | (with_reducible exact E) | (with_reducible apply Env.drew) | (with_reducible apply Env.drewN) | (with_reducible apply Env.alloc'))) (by rfl) ox p l1.out (by rfl) (by rfl) rfl 1 (by rfl) (by rfl) (heap_new_at (by simp)) (by rfl) (by omega) (by omega) ?_; intro CX2 cx2 w5 hx2 ox2 E5))
            simp at E5
            go_roundw
            case rel => exact ⟨j + 1, p + 1, q, m + 1, cx2, cy, CX2, CY, hx2, hy, by omega, by omega, by go_num, rfl, rfl, by go_num, by unfold Hid; rw [HX0.out]; rw [List.length_append, l1.out]; rfl, by unfold Hid; rw [HY0.out]; exact l2.out, by unfold Hid; rw [HR0.out]; rw [List.length_append, l3.out]; rfl, by omega, by omega, by omega, by rw [HX0.out]; exact ox2, by rw [HY0.out]; exact oy, E5⟩
            case measure => simp [intOf]; omega
          · have ta : (va - 1000 != 0) = true := by simpa using ha
            have tb : (vb - 1000 != 0) = true := by simpa using hb
            rw [if_neg ha] at HX0
            rw [if_neg hb] at HY0
            rw [if_neg (by omega)] at HR0
            clear ha hb
            generalize mkB (amtF za) j = LX at *
            generalize mkB (amtF zb) j = LY at *
            generalize rowsB (amtF za) (amtF zb) j = LR at *
            go_wp2_with (first | (go_at_call 21; ((with_reducible refine (WA _).mono ?_)); rintro e w' ⟨rfl, rfl⟩) | (go_at_call 21; ((with_reducible refine (WB _).mono ?_)); rintro e w' ⟨rfl, rfl⟩) | (at_builtin; refine wpList_eapp 0 ⟨1, j, va - 1000⟩ Try.underlying28 info_bucket (by repeat (first | (with_reducible exact E) | (with_reducible apply Env.drew) | (with_reducible apply Env.drewN) | (with_reducible apply Env.alloc'))) (by rfl) ox p l1.out (by rfl) (by rfl) rfl 1 (by rfl) (by rfl) (heap_new_at (by simp)) (by rfl) (by omega) (by omega) ?_; intro CX2 cx2 w5 hx2 ox2 E5) | (at_builtin; refine wpList_eapp 1 ⟨1, j, vb - 1000⟩ Try.underlying28 info_bucket (by repeat (first | (with_reducible exact E5) | (with_reducible apply Env.drew) | (with_reducible apply Env.drewN) | (with_reducible apply Env.alloc'))) (by rfl) oy q l2.out (by rfl) (by rfl) rfl 1 (by rfl) (by rfl) (heap_new_at (by simp)) (by rfl) (by omega) (by omega) ?_; intro CY2 cy2 w6 hy2 oy2 E6))
            simp at E6
            go_roundw
            case rel => exact ⟨j + 1, p + 1, q + 1, m + 1, cx2, cy2, CX2, CY2, hx2, hy2, by omega, by omega, by go_num, rfl, rfl, by go_num, by unfold Hid; rw [HX0.out]; rw [List.length_append, l1.out]; rfl, by unfold Hid; rw [HY0.out]; rw [List.length_append, l2.out]; rfl, by unfold Hid; rw [HR0.out]; rw [List.length_append, l3.out]; rfl, by omega, by omega, by omega, by rw [HX0.out]; exact ox2, by rw [HY0.out]; exact oy2, E6⟩
            case measure => simp [intOf]; omega
      · have eb : amtF zb j = 0 := by unfold amtF; rw [List.getElem?_eq_none (by omega)]
        rw [eb] at HR0 HY0
        clear eb
        by_cases ha : va - 1000 = 0
        · have ta : (va - 1000 != 0) = false := by simpa using ha
          rw [if_pos ha, List.append_nil] at HX0
          rw [if_pos rfl, List.append_nil] at HY0
          rw [if_pos ⟨ha, rfl⟩, List.append_nil] at HR0
          clear ha
          generalize mkB (amtF za) j = LX at *
          generalize mkB (amtF zb) j = LY at *
          generalize rowsB (amtF za) (amtF zb) j = LR at *
          go_wp2_with (first | (go_at_call 21; ((with_reducible refine (WA _).mono ?_)); rintro e w' ⟨rfl, rfl⟩))
          go_roundw
          case rel => exact ⟨j + 1, p, q, m, cx, cy, CX, CY, hx, hy, by omega, by omega, by go_num, rfl, rfl, rfl, by unfold Hid; rw [HX0.out]; exact l1.out, by unfold Hid; rw [HY0.out]; exact l2.out, by unfold Hid; rw [HR0.out]; exact l3.out, by omega, by omega, by omega, by rw [HX0.out]; exact ox, by rw [HY0.out]; exact oy, E⟩
          case measure => simp [intOf]; omega
        · have ta : (va - 1000 != 0) = true := by simpa using ha
          rw [if_neg ha] at HX0
          rw [if_pos rfl, List.append_nil] at HY0
          rw [if_neg (by omega)] at HR0
          clear ha
          generalize mkB (amtF za) j = LX at *
          generalize mkB (amtF zb) j = LY at *
          generalize rowsB (amtF za) (amtF zb) j = LR at *
          go_wp2_with (first | (go_at_call 21; ((with_reducible refine (WA _).mono ?_)); rintro e w' ⟨rfl, rfl⟩) | (at_builtin; refine wpList_eapp 0 ⟨1, j, va - 1000⟩ Try.underlying28 info_bucket (by repeat (first | (with_reducible exact E) | (with_reducible apply Env.drew) | (with_reducible apply Env.drewN) | (with_reducible apply Env.alloc'))) (by rfl) ox p l1.out (by rfl) (by rfl) rfl 1 (by rfl) (by rfl) (heap_new_at (by simp)) (by rfl) (by omega) (by omega) ?_; intro CX2 cx2 w5 hx2 ox2 E5))
          simp at E5
          go_roundw
          case rel => exact ⟨j + 1, p + 1, q, m + 1, cx2, cy, CX2, CY, hx2, hy, by omega, by omega, by go_num, rfl, rfl, by go_num, by unfold Hid; rw [HX0.out]; rw [List.length_append, l1.out]; rfl, by unfold Hid; rw [HY0.out]; exact l2.out, by unfold Hid; rw [HR0.out]; rw [List.length_append, l3.out]; rfl, by omega, by omega, by omega, by rw [HX0.out]; exact ox2, by rw [HY0.out]; exact oy, E5⟩
          case measure => simp [intOf]; omega
    · have hx2 : ¬ j < za.length ∨ (j < za.length ∧ ¬ j < 6) := by omega
      have FX := refFwd_mkB (amtF za) (amtF zb) hj6
      have gx := good_mkB hf.out hj6
      have gy := good_mkB hg.out hj6
      have F1 := (fwd_ref gx gy).trans FX
      have F2 := (fwd_ref gy gx).trans ((refFwd_swap _ _).trans (by rw [FX]))
      obtain ⟨M, R, M2, R2, q1, q2, q3, q4, q5, q6, q7, q8, q9, q10, q11⟩ := back_both (by rw [l3.out]; omega) (rowsB_bd hf.out hg.out) ho hn l3.out
      have lx := gx.len
      have ly := gy.len
      have L1 := l1.out
      clear hlt FX gx gy
      generalize mkB (amtF za) j = xs at *
      generalize mkB (amtF zb) j = ys at *
      generalize rowsB (amtF za) (amtF zb) j = rows at *
      have C1 := fun (W : World) (l : List Hp) (E : Env w W l) (ko kn : Hp) (D F : Option Addr) (cd cf : Nat) (so : Sl kInt ko D cd (List.replicate m old)) (sn : Sl kInt kn F cf (List.replicate m now)) (s1 : hx.sub W) (s2 : hy.sub W) (s3 : ko.sub W) (s4 : kn.sub W) => Rem.temp E ox.sl s1 oy.sl s2 so s3 sn s4 (by omega) (by omega) p q m m l1.out l2.out (by simp) (by simp) F1 q2 q3 q1
      have C2 := fun (W : World) (l : List Hp) (E : Env w W l) (ko kn : Hp) (D F : Option Addr) (cd cf : Nat) (so : Sl kInt ko D cd (List.replicate m old)) (sn : Sl kInt kn F cf (List.replicate m now)) (s1 : hx.sub W) (s2 : hy.sub W) (s3 : ko.sub W) (s4 : kn.sub W) => Rem.temp E oy.sl s2 ox.sl s1 sn s4 so s3 (by omega) (by omega) q p m m l2.out l1.out (by simp) (by simp) F2 q5 q6 q4
      clear F1 F2 q1 q2 q3 q4 q5 q6 L1
      have w1 : wrap64 (M + R) = M + R := wrap64_small (by omega)
      have w2 : wrap64 (M2 + R2) = M2 + R2 := wrap64_small (by omega)
      have T1 := fun (W : World) (l : List Hp) (E : Env w W l) => Rem.total E M R w1
      have T2 := fun (W : World) (l : List Hp) (E : Env w W l) => Rem.total E M2 R2 w2
      obtain ⟨T, hT⟩ : ∃ T, T = M + R := ⟨_, rfl⟩
      have hT2 : M2 + R2 = -T := by omega
      rw [← hT] at T1
      rw [hT2] at T2
      have e1 : IntKind.i64.wrap (-(-T)) = T := by rw [IntKind.wrap_i64]; omega
      have e2 : IntKind.i64.wrap T = T := by rw [IntKind.wrap_i64]; omega
      clear q7 q8 q9 q10 q11 w1 w2 hT hT2
      have E1 := (E.new (Upd.of_below (Below.refl _ _))).new (Upd.of_below (Below.refl _ _))
      simp at E1
      obtain ⟨wo, rfl⟩ : ∃ wo : World, wo = wr := ⟨_, rfl⟩
      have i1 : (0 : Int) ≤ (m : Int) := by omega
      rcases hx2 with hx2 | ⟨hx2, hx3⟩
      all_goals
        go_wp2
        go_loopw [15, 16, 17] (fun vo vn i wr => ∃ (k co cn : Nat) (CO CN : Option Addr) (ko kn : Hp), k ≤ m ∧ i = .int .i64 k ∧ vo = .slice CO k co ∧ vn = .slice CN k cn ∧ Ow kInt ko CO co (List.replicate k old) ∧ Ow kInt kn CN cn (List.replicate k now) ∧ Env w wr [hx, hy, ko, kn]) (fun _ _ i _ => m - (intOf i).toNat)
        case atStart => exact ⟨0, 0, 0, none, none, Hp.none, Hp.none, by omega, rfl, rfl, rfl, Ow.none _ _, Ow.none _ _, E1⟩
        case round =>
          clear E1 E
          obtain ⟨k, co, cn, CO, CN, ko, kn, hk, rfl, rfl, rfl, oo, on, E⟩ := hrel
          by_cases hlt : k < m
          · have i2 : (0 : Int) ≤ (k : Int) := by omega
            have i3 : (k : Int) < (m : Int) := by omega
            have HO : Hid (List.replicate (k + 1) old = List.replicate k old ++ [old]) := List.replicate_succ'
            have HN : Hid (List.replicate (k + 1) now = List.replicate k now ++ [now]) := List.replicate_succ'
            have n1 := Lib.hid (List.length_replicate (n := k) (a := old))
            have n2 := Lib.hid (List.length_replicate (n := k) (a := now))
            generalize List.replicate k old = lo at *
            generalize List.replicate k now = ln at *
            clear hx2
            go_wp2_with (first
              | (at_builtin; refine wpList_eapp 2 old Try.underlying22 info_int (by repeat (first | (with_reducible exact E) | (with_reducible apply Env.drew) | (with_reducible apply Env.drewN) | (with_reducible apply Env.alloc'))) (by rfl) oo k n1.out (by rfl) (by rfl) rfl 1 (by rfl) (by rfl) (heap_new_at (by simp)) (by rfl) (by omega) (by omega) ?_; intro CO2 co2 w5 ko2 oo2 E5)
              | (at_builtin; refine wpList_eapp 3 now Try.underlying22 info_int (by repeat (first | (with_reducible exact E5) | (with_reducible apply Env.drew) | (with_reducible apply Env.drewN) | (with_reducible apply Env.alloc'))) (by rfl) on k n2.out (by rfl) (by rfl) rfl 1 (by rfl) (by rfl) (heap_new_at (by simp)) (by rfl) (by omega) (by omega) ?_; intro CN2 cn2 w6 kn2 on2 E6))
            simp at E6
            go_roundw
            case rel => exact ⟨k + 1, co2, cn2, CO2, CN2, ko2, kn2, by omega, by go_num, rfl, rfl, by rw [HO.out]; exact oo2, by rw [HN.out]; exact on2, E6⟩
            case measure => simp [intOf]; omega
          · obtain rfl : k = m := by omega
            go_wp2_with fail
            refine (C1 _ _ E ko kn CO CN co cn oo.sl on.sl (E.sub 0 rfl) (E.sub 1 rfl) (E.sub 2 rfl) (E.sub 3 rfl)).mono ?_
            rintro e w5 ⟨rfl, E5⟩
            have E6 := E5.alloc (.cells #[.int .i64 M, .int .i64 R] 52)
            simp at E6
            go_wp2_with fail
            refine (C2 _ _ E6 ko kn CO CN co cn oo.sl on.sl (E6.sub 0 rfl) (E6.sub 1 rfl) (E6.sub 2 rfl) (E6.sub 3 rfl)).mono ?_
            rintro e w7 ⟨rfl, E7⟩
            have E8 := E7.alloc (.cells #[.int .i64 M2, .int .i64 R2] 52)
            simp at E8
            have EC := fun (W : World) (E : Env w W [hx, hy, ko, kn, Hp.box w5.heap.size [.int .i64 M, .int .i64 R] 52, Hp.box w7.heap.size [.int .i64 M2, .int .i64 R2] 52]) => (⟨E.cell 4 rfl 0 rfl, E.cell 4 rfl 1 rfl, E.cell 5 rfl 0 rfl, E.cell 5 rfl 1 rfl⟩ : W.cell? ⟨w5.heap.size, 0, none⟩ = some (.int .i64 M) ∧ W.cell? ⟨w5.heap.size, 1, none⟩ = some (.int .i64 R) ∧ W.cell? ⟨w7.heap.size, 0, none⟩ = some (.int .i64 M2) ∧ W.cell? ⟨w7.heap.size, 1, none⟩ = some (.int .i64 R2))
            obtain ⟨c0, c1, c2, c3⟩ := EC _ E8
            clear C1 C2
            go_wp2
            go_region_held3 (fun w' => w'.cell? ⟨w5.heap.size, 0, none⟩ = some (.int .i64 M) ∧ w'.cell? ⟨w5.heap.size, 1, none⟩ = some (.int .i64 R) ∧ w'.cell? ⟨w7.heap.size, 0, none⟩ = some (.int .i64 M2) ∧ w'.cell? ⟨w7.heap.size, 1, none⟩ = some (.int .i64 R2))
              (first | go_keep | (exact hkeep))
              (first
                | (go_at_call 28; ((with_reducible refine (T1 _ _ (by repeat (first | (with_reducible exact E8) | (with_reducible apply Env.drew) | (with_reducible apply Env.drewN) | (with_reducible apply Env.alloc')))).mono ?_)); rintro e w14 ⟨rfl, E14⟩; have hkeep := EC _ E14)
                | (go_at_call 28; ((with_reducible refine (T2 _ _ (by repeat (first | (with_reducible exact E14) | (with_reducible apply Env.drew) | (with_reducible apply Env.drewN) | (with_reducible apply Env.alloc')))).mono ?_)); rintro e w15 ⟨rfl, E15⟩; have hkeep := EC _ E15)
                | (go_at_call 27; ((with_reducible refine (wakes17 _).mono ?_)); rintro e w16 ⟨rfl, B16⟩; have hkeep := EC _ (Env.below (by repeat (first | (with_reducible exact E15) | (with_reducible apply Env.drew) | (with_reducible apply Env.drewN) | (with_reducible apply Env.alloc'))) B16))
                | fail)
            go_wp2
            go_ret
            exact ⟨rfl, by repeat (first | exact (Env.below (by repeat (first | (with_reducible exact E15) | (with_reducible apply Env.drew) | (with_reducible apply Env.drewN) | (with_reducible apply Env.alloc'))) B16).low | apply Below.drew)⟩
end Go.Proofs.Ythcapomobidnbaa
end
namespace Go.Proofs.Ythcapomobidnbaa.remeasureBack
open Go.ChangeShapes Go.WideShapes Go.ChangeAt Go.RowKit Go.Sl
set_option linter.unusedVariables false
set_option maxRecDepth 100000
theorem lifted (os : Os) (started : os.Started) (H : Type) (enc : TypeId × Value → H) :
    ReturnsInHanded {} Try.checked os 8 .any (Rows.remeasureBackSpec.pre6 enc Try.prog Try.f8 Rows.remeasureBackRow.domain false) (Rows.remeasureBackSpec.post enc Try.prog Try.f8 false true false false) := by
  refine returnsInHanded_of_change_sized (C := Try.checked) Lift.own started (by kernel_rfl) Try.func8
    (ChangeSpec.witness6 (enc := enc) (C := Try.checked) false ⟨#[], #[.slice none 0 0, .slice none 0 0, .int .i64 0, .int .i64 0], []⟩ 8 (by kernel_rfl) (by kernel_rfl) (by kernel_rfl) (by kernel_rfl)) ?_
  intro W base args ds gs before hval0 hW hcnd hsz0 _
  have hval : ∀ (j : Nat) t v, Try.f8.params[j]? = some t → args[j]? = some v → Value.okWide Try.prog W .any base t v := hval0
  have hW' := hW
  obtain ⟨p, q, hA0, hV, rfl, hfz, hnd⟩ := hW
  have hA : DataW.TrodAll enc Try.prog W 0 (fun _ => true) true Try.f8.params.toList args.toList ds p := hA0
  rw [Try.params8] at hA hval
  obtain ⟨v0, vs0, d0, ds0, p0, q0, hargs, rfl, rfl, h0, r0⟩ := trodAll_cons hA
  obtain ⟨v1, vs1, d1, ds1, p1, q1, rfl, rfl, rfl, h1, r1⟩ := trodAll_cons r0
  obtain ⟨v2, vs2, d2, ds2, p2, q2, rfl, rfl, rfl, h2, r2⟩ := trodAll_cons r1
  obtain ⟨v3, vs3, d3, ds3, p3, q3, rfl, rfl, rfl, h3, r3⟩ := trodAll_cons r2
  obtain ⟨rfl, rfl, rfl⟩ := trodAll_nil r3
  obtain rfl : args = #[v0, v1, v2, v3] := by cases args; simp_all
  obtain ⟨rfl, rfl⟩ := trodVars_none hV
  have k0 := h0
  have lt0 : ∀ x ∈ p0, x.block < W.heap.size := by obtain ⟨m, hm⟩ := k0; exact DataW.trod_lt m _ _ _ hm
  obtain ⟨A0, c0, z0, rfl, s0, w0⟩ := Lift.ints_of (hval 0 22 v0 rfl rfl) h0
  have k1 := h1
  have lt1 : ∀ x ∈ p1, x.block < W.heap.size := by obtain ⟨m, hm⟩ := k1; exact DataW.trod_lt m _ _ _ hm
  obtain ⟨A1, c1, z1, rfl, s1, w1⟩ := Lift.ints_of (hval 1 22 v1 rfl rfl) h1
  obtain ⟨a2, rfl, rfl, rfl, x2⟩ := open_int Try.underlying3 (hval 2 3 v2 rfl rfl) h2
  have w2 := I64.of_wf x2
  obtain ⟨a3, rfl, rfl, rfl, x3⟩ := open_int Try.underlying3 (hval 3 3 v3 rfl rfl) h3
  have w3 := I64.of_wf x3
  clear hA0 hval0 hsz0
  refine (remeasureBack_calls A0 A1 c0 c1 z0 z1 a2 a3 (Hp.all W) (Hp.all W) W (Hp.all_sub W) (Hp.all_sub W) s0 s1).mono fun e W' ⟨he, bel⟩ => ?_
  subst he
  exact ⟨_, rfl, _, _, _, [], _, [], hW', trodAll_mk1 (shut_bool Try.underlying4 _), (trodAll_cons_mk (Below.trod Lift.laidOut (by kernel_rfl) (of_decide_eq_true (by kernel_rfl)) k0 bel lt0) (trodAll_cons_mk (Below.trod Lift.laidOut (by kernel_rfl) (of_decide_eq_true (by kernel_rfl)) k1 bel lt1) (trodAll_cons_mk (shut_int Try.underlying3 x2) (trodAll_cons_mk (shut_int Try.underlying3 x3) trodAll_mk0)))), rfl, bel.frame _, fun h => by cases h⟩
theorem over : Rows.remeasureBackRow.holds Try.pinned (OpenSpec.ofChange Rows.remeasureBackSpec) :=
  OpenClaim.holds_of_wide 8 Try.f8 rfl rfl rfl rfl rfl rfl rfl ⟨rfl, rfl, rfl, rfl, rfl⟩ rfl rfl rfl rfl rfl (by kernel_rfl) Try.func8 (by kernel_rfl)
    (of_decide_eq_true (by kernel_rfl)) (by unfold Func.isWrapper; first | (rw [if_pos (by decide +kernel)]; kernel_rfl) | (rw [if_neg (by decide +kernel)]; exact ⟨rfl, rfl⟩))
    (fun os started H enc _ => lifted os started H enc)
end Go.Proofs.Ythcapomobidnbaa.remeasureBack
namespace Go.Proofs.Ythcapomobidnbaa
theorem remeasureBack_holds : Rows.RemeasureBackSaid := remeasureBack.over
#print axioms remeasureBack_holds
end Go.Proofs.Ythcapomobidnbaa
