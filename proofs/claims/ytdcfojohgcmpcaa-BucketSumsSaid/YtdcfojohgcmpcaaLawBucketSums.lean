/- The law BucketSums: for every input it returns true, and its arguments read behind the call as before it. No conditions. -/
import Derived.Test.YtdcfojohgcmpcaaPk5
import Derived.OwnWalk
import Derived.Deep.DeepCutAuto
import Derived.Deep.RegionWith
import Derived.Deep.RegionHeld3
import Derived.Deep.RegionLaw
set_option linter.all false
section
/- A register made anew, bucket by bucket, those below 0 and those above 0 by turns, plain. No program is named here. -/
namespace Go.Sl
open Go Go.RowKit
/-- Of the register l0 the buckets lf are still to come; R is what there is. -/
structure OfInv (l0 R lf : List STri) : Prop where
  rise : RisingR R
  perm : (R ++ lf).Perm l0
  mon : money (sumC R) = true
theorem OfInv.start {l0 : List STri} : OfInv l0 [] l0 := ⟨List.Pairwise.nil, List.Perm.refl _, by decide⟩
/-- Which bucket is next. -/
def OfPick (t : Int) (lf : List STri) (k : Nat) : Prop := (∃ x, lf[k]? = some x ∧ (decide (0 < t) == decide (x.c < 0)) = true) ∨ (k = 0 ∧ ∀ x ∈ lf, (decide (0 < t) == decide (x.c < 0)) = false)
section
variable {l0 R lf : List STri}
theorem sumC_app (a b : List STri) : sumC (a ++ b) = sumC a + sumC b := by simp [sumC]
theorem OfInv.sum (v : OfInv l0 R lf) : sumC R + sumC lf = sumC l0 := by
  rw [← sumC_app]; exact sum_perm (v.perm.map _)
theorem OfInv.mem_l (v : OfInv l0 R lf) {x : STri} (h : x ∈ lf) : x ∈ l0 := v.perm.mem_iff.1 (List.mem_append.2 (.inr h))
theorem OfInv.mem_r (v : OfInv l0 R lf) {x : STri} (h : x ∈ R) : x ∈ l0 := v.perm.mem_iff.1 (List.mem_append.2 (.inl h))
theorem OfInv.dist (v : OfInv l0 R lf) (g : GoodR l0) : (R ++ lf).Pairwise fun x y => rkey x ≠ rkey y :=
  (v.perm.pairwise_iff (fun {_ _} h e => h e.symm)).2 (g.rise.imp fun h => ordPair.ne h)
theorem OfInv.len (v : OfInv l0 R lf) : R.length + lf.length = l0.length := by rw [← List.length_append]; exact v.perm.length_eq
theorem sumC_nonneg {l : List STri} (h : ∀ x ∈ l, 0 ≤ x.c) : 0 ≤ sumC l := by
  induction l with
  | nil => simp [sumC]
  | cons y l ih =>
    have h1 := h y (by simp)
    have h2 := ih fun x hx => h x (by simp [hx])
    have e : sumC (y :: l) = y.c + sumC l := by simp [sumC]
    omega
theorem sumC_nonpos {l : List STri} (h : ∀ x ∈ l, x.c ≤ 0) : sumC l ≤ 0 := by
  induction l with
  | nil => simp [sumC]
  | cons y l ih =>
    have h1 := h y (by simp)
    have h2 := ih fun x hx => h x (by simp [hx])
    have e : sumC (y :: l) = y.c + sumC l := by simp [sumC]
    omega
theorem erase_perm {α : Type} {l : List α} {k : Nat} {x : α} (hx : l[k]? = some x) : l.Perm (x :: l.eraseIdx k) := by
  induction l generalizing k with
  | nil => simp at hx
  | cons y l ih =>
    cases k with
    | zero => simp at hx; subst hx; exact List.Perm.refl _
    | succ k => exact ((ih (by simpa using hx)).cons y).trans (List.Perm.swap _ _ _)
/-- The next bucket is moved, and that is no error. -/
theorem OfInv.next (v : OfInv l0 R lf) (g : GoodR l0) (hm : money (sumC l0) = true) {k : Nat} {x : STri} (hp : OfPick (sumC R) lf k) (hx : lf[k]? = some x) :
    moveE R x.a x.b x.c = 0 ∧ OfInv l0 (moveR R x.a x.b x.c) (lf.eraseIdx k) := by
  have hxl := List.mem_of_getElem? hx
  have hx0 := v.mem_l hxl
  have hd := v.dist g
  have hno : ∀ y ∈ R, rkey y ≠ rkey x := fun y hy => (List.pairwise_append.1 hd).2.2 y hy x hxl
  have hg : getB R x.a x.b = 0 := by unfold getB; rw [show ((x.a, x.b) : Int × Int) = rkey x from rfl, find_miss' hno]
  have hxm := g.mon x hx0
  have hxn := g.nz x hx0
  have hb := g.rng x hx0
  have hpm := erase_perm hx
  have hs : sumC lf = x.c + sumC (lf.eraseIdx k) := by
    have := sum_perm (hpm.map (·.c)); simpa [sumC] using this
  have hsum := v.sum
  have hmR := v.mon
  have hxm' : -100000000000 ≤ x.c ∧ x.c ≤ 100000000000 := by simpa [money] using hxm
  have hmR' : -100000000000 ≤ sumC R ∧ sumC R ≤ 100000000000 := by simpa [money] using hmR
  have hm' : -100000000000 ≤ sumC l0 ∧ sumC l0 ≤ 100000000000 := by simpa [money] using hm
  have ht : -100000000000 ≤ sumC R + x.c ∧ sumC R + x.c ≤ 100000000000 := by
    rcases hp with ⟨y, hy, hc⟩ | ⟨rfl, hall⟩
    · rw [hx] at hy; cases hy
      simp at hc
      by_cases h0 : 0 < sumC R
      · have := hc.1 h0; omega
      · have : ¬ x.c < 0 := fun e => h0 (hc.2 e); omega
    · have hsub : ∀ y ∈ lf.eraseIdx 0, y ∈ lf := fun y hy => List.mem_of_mem_eraseIdx hy
      by_cases h0 : 0 < sumC R
      · have h1 : ∀ y ∈ lf, 0 ≤ y.c := fun y hy => by have := hall y hy; simp [h0] at this; omega
        have := sumC_nonneg fun y hy => h1 y (hsub y hy)
        have := h1 x hxl
        omega
      · have h1 : ∀ y ∈ lf, y.c ≤ 0 := fun y hy => by have := hall y hy; simp [h0] at this; omega
        have := sumC_nonpos fun y hy => h1 y (hsub y hy)
        have := h1 x hxl
        omega
  have hsetB : setB R x.a x.b (0 + x.c) = put ordPair rkey x R := by
    unfold setB; rw [Int.zero_add, if_neg hxn]
  have hdel : del rkey (rkey x) R = R := del_none (find_miss' hno)
  have hpp := put_perm (o := ordPair) (key := rkey) x v.rise
  rw [hdel] at hpp
  have hlen := v.len
  have hkl : 0 < lf.length := List.length_pos_of_mem hxl
  have hll : (put ordPair rkey x R).length = R.length + 1 := by rw [hpp.length_eq]; rfl
  have hE : moveE R x.a x.b x.c = 0 := by
    unfold moveE
    rw [hg, hsetB, if_neg (by simp [hb, hxm]), if_neg (by simp [money]; omega), if_neg (by have := g.len; omega)]
  have hR : moveR R x.a x.b x.c = put ordPair rkey x R := by unfold moveR; rw [if_pos hE, hg, hsetB]
  refine ⟨hE, ⟨by rw [hR]; exact v.rise.put _ _ _, ?_, ?_⟩⟩
  · rw [hR]
    refine (hpp.append_right _).trans ?_
    refine List.Perm.trans ?_ ((hpm.append_left R).symm.trans v.perm)
    simpa using (List.perm_middle (a := x) (l₁ := R) (l₂ := lf.eraseIdx k)).symm
  · rw [hR, show sumC (put ordPair rkey x R) = sumC (x :: R) from sum_perm (hpp.map _)]
    have : sumC (x :: R) = x.c + sumC R := by simp [sumC]
    rw [this]; simp [money]; omega
theorem OfInv.good (v : OfInv l0 R lf) (g : GoodR l0) : GoodR R :=
  ⟨v.rise, fun x hx => g.nz x (v.mem_r hx), fun x hx => g.mon x (v.mem_r hx), fun x hx => g.rng x (v.mem_r hx), by have := v.len; have := g.len; omega⟩
theorem OfInv.fin (v : OfInv l0 R []) (g : GoodR l0) : R = l0 := by
  have hp := v.perm
  rw [List.append_nil] at hp
  exact Rising.ext ordPair rkey v.rise g.rise fun x => hp.mem_iff
end
theorem money_move {l : List STri} (g : GoodR l) (h : money (sumC l) = true) (c y n : Int) : money (sumC (moveR l c y n)) = true := by
  unfold moveR
  split
  · rename_i hE
    obtain ⟨_, _, _, h4, _⟩ := moveE_ok hE
    rw [sumC_setB g.rise]
    rw [show sumC l - getB l c y + (getB l c y + n) = sumC l + n by omega]; exact h4
  · exact h
theorem money_fold : ∀ (zs : List Int) (l : List STri), GoodR l → money (sumC l) = true → money (sumC (zs.foldl regStep l)) = true
  | [], _, _, h => h
  | _ :: zs, _, g, h => money_fold zs _ (g.move _ _ _) (money_move g h _ _ _)
theorem regOf_money (zs : List Int) : money (sumC (regOf zs)) = true := money_fold _ _ .nil (by decide)
end Go.Sl
end
section
/- append of a whole slice of flat elements in a drawn region, at a body's own memory. No program is named here. -/
namespace Go.Sl
open Go Go.RowKit
section
variable {P : Program} {α : Type} {k : Kd α} {h hx : Hp} {A B : Option Addr} {cap : Nat} {xs ys : List α} {w0 w : World} {l : List Hp}
theorem step_eappF {ops : Array Oper} {op : Oper} {a : Act} {K : Act → World → Prop} {Q : Exit → Act → World → Prop} {F : Prop} {sx xx : Operand} {t e : TypeId} {z : Value} {bytes cb : Nat}
    (i : Nat) (ht : P.underlying t = some (.slice e)) (hinfo : Info P e z k.size bytes) (E : Env w0 w l) (hi : l[i]? = some h) (o : Ow k h A cap xs) (sy : Sl k hx B cb ys) (sx' : hx.sub w) (n m : Nat) (hn : xs.length = n) (hm' : ys.length = m)
    (f : k.Flat) (hzs : z.cells.size = k.size) (hgd : op.guard = none)
    (ho : op.op = .call { callee := .builtin .append, args := #[sx, xx], argTypes := #[t, t] }) (c : Nat) (hsv : a.eval sx = .slice A n cap) (hxv : a.eval xx = .slice B m c)
    (hm : n + m ≤ 1000000000) (hby : bytes ≤ 1000)
    (H : ∀ A' cap' w' h', Ow k h' A' cap' (xs ++ ys) → Env w0 w' (l.set i h') → K (a.put op.dst (.slice A' (n + m) cap')) w') :
    if Region.wanted op (yielded ops a.tmps) = true then Oper.wp P op a w K Q else F := by
  unfold Info at hinfo
  cases hP : P.info? e with
  | none => rw [hP] at hinfo; cases hinfo
  | some inf =>
    rw [hP] at hinfo
    simp only [Option.map_some, Option.some.injEq, Prod.mk.injEq] at hinfo
    refine step_append (k := k) (h := h) (hx := Hp.none) (A := A) (cap := cap) (B := B) (xs := xs) (ys := ys) hgd sx xx t ho e inf z ht hP hinfo.1 hinfo.2.1 hzs bytes hinfo.2.2 n m c hn hm' hsv hxv o (E.sub i hi) ((sy.src sx').flat f _) (Hp.none_sub _) (Hp.apart_none _) (by unfold maxLen; omega) ?_ fun A' cap' w' h' h1 h2 => H A' cap' w' h' h1 (E.upd i hi h2.flat)
    have : (n + m) * bytes ≤ 1000000000 * 1000 := Nat.mul_le_mul hm hby
    omega
end
end Go.Sl
end
section
/- The walk of law10.Of: of the document's register, one of the program's. -/
namespace Go.Proofs.Ytdcfojohgcmpcaa
open Go.RowKit Go.Sl
set_option maxHeartbeats 4000000
set_option maxRecDepth 100000
theorem of10_calls (b : Nat) (l0 : List STri) (h : Hp) (w : World) (hs : h.sub w) (hp : PtR h b l0) (g : GoodR l0) (hm : money (sumC l0) = true) :
    Calls Try.prog 48 #[.pointer (some ⟨b, 0, none⟩)] w fun e w' => ∃ h' b', e = .returned (.pointer (some ⟨b', 0, none⟩)) ∧ Regi h' b' l0 ∧ Upd Hp.none h' w w' := by
  obtain ⟨A, ca, hc, sx⟩ := hp.reg hs
  have hlt := World.block_lt_of_cell? _ _ hc
  have hl12 := g.len
  have E0 := Env.start w
  go_enter Try.func48, Try.ntmps48
  go_wp2_with fail
  refine (Regi.new E0).mono ?_
  rintro e w1 ⟨h1, c, rfl, S1, E1⟩
  try simp at E1
  have hc1 := (E1.low.cell (p := ⟨b, 0, none⟩) hlt).trans hc
  have lm := sx.small
  go_wp2_with (at_builtin; refine wpList_clone (B := none) Try.underlying77 info_bucket (by rfl) (by rfl) rfl l0.length ca (by rfl) (by rfl) rfl kTri_flat sx (hs.of_below E1.low) (by omega) (by omega) ?_; intro C2 n2 w2 h2 o2 u2)
  have E2 := E1.new u2
  simp at E2
  clear u2 hc1 E1
  go_loopw [4] (fun v wr => ∃ (n n2 : Nat) (C2 : Option Addr) (g1 g2 : Hp) (R lf : List STri), v = .slice C2 n n2 ∧ lf.length = n ∧ n ≤ 12 ∧ OfInv l0 R lf ∧ Regi g1 c R ∧ Ow kTri g2 C2 n2 lf ∧ Env w wr [g1, g2]) (fun v _ => (match v with | .slice _ n _ => n | _ => 0))
  case atStart => exact ⟨_, _, _, _, _, [], l0, rfl, rfl, hl12, .start, S1, o2, E2⟩
  case round =>
    clear S1 o2 E2
    obtain ⟨n, n2, C2, g1, g2, R, lf, rfl, hn, hn12, V, S, o, E⟩ := hrel
    by_cases h0 : 0 < n
    · have t0 : decide (0 < (n : Int)) = true := by simp; omega
      go_upto_region 7 with fail
      go_wp2_with fail
      clear t0
      go_loopw [5, 21] (fun k i wr => ∃ (q kk : Nat), q ≤ n ∧ i = .int .i64 q ∧ k = .int .i64 kk ∧ ((∃ x, lf[kk]? = some x ∧ (decide (0 < sumC R) == decide (x.c < 0)) = true ∧ kk < q) ∨ (kk = 0 ∧ ∀ x ∈ lf.take q, (decide (0 < sumC R) == decide (x.c < 0)) = false)) ∧ Env w wr [g1, g2]) (fun _ i _ => n - (intOf i).toNat)
      case atStart => exact ⟨0, 0, by omega, rfl, rfl, .inr ⟨rfl, by simp⟩, E⟩
      case round =>
        clear E
        obtain ⟨q, kk, hq, rfl, rfl, hPK, E⟩ := hrel
        have HPK := Lib.hid hPK
        clear hPK
        by_cases hlt : q < n
        · obtain ⟨x, hx⟩ := some_of_lt (show q < lf.length by omega)
          obtain ⟨bx, ox, rfl, d0, d1, d2⟩ := o.sl.tri (E.sub 1 rfl) hx
          have i1 : (0 : Int) ≤ (q : Int) := by omega
          have i2 : (q : Int) < (n : Int) := by omega
          have TT := fun (W : World) (L : List Hp) (E : Env w W L) (hi : L[0]? = some g1) => Regi.total S E 0 hi rfl
          have HN1 : (decide (0 < sumC R) == decide (x.c < 0)) = true → Hid ((∃ x, lf[q]? = some x ∧ (decide (0 < sumC R) == decide (x.c < 0)) = true ∧ q < q + 1) ∨ (q = 0 ∧ ∀ x ∈ lf.take (q + 1), (decide (0 < sumC R) == decide (x.c < 0)) = false)) := fun e => .inl ⟨x, hx.out, e, by omega⟩
          have HN2 : (decide (0 < sumC R) == decide (x.c < 0)) = false → Hid ((∃ x, lf[kk]? = some x ∧ (decide (0 < sumC R) == decide (x.c < 0)) = true ∧ kk < q + 1) ∨ (kk = 0 ∧ ∀ x ∈ lf.take (q + 1), (decide (0 < sumC R) == decide (x.c < 0)) = false)) := fun e => by
            rcases HPK.out with ⟨y, h1, h2, h3⟩ | ⟨h1, h2⟩
            · exact .inl ⟨y, h1, h2, by omega⟩
            · refine .inr ⟨h1, fun z hz => ?_⟩
              rw [take_next hx] at hz
              rcases List.mem_append.1 hz with hz | hz
              · exact h2 z hz
              · simp at hz; rw [hz]; exact e
          generalize sumC R = t at *
          go_upto_region 10 with fail
          replace E := E.alloc (.cells #[.int .i64 x.a, .int .i64 x.b, .int .i64 x.c] 81)
          simp at E
          obtain ⟨W, hW⟩ : ∃ W : World, W = wr.alloc (.cells #[.int .i64 x.a, .int .i64 x.b, .int .i64 x.c] 81) := ⟨_, rfl⟩
          rw [← hW] at E
          rw [← hW]
          clear hW
          have q0 := E.cell 2 rfl 0 rfl
          have q1 := E.cell 2 rfl 1 rfl
          have q2 := E.cell 2 rfl 2 rfl
          generalize wr.heap.size = bw at *
          clear d0 d1 d2 q0 q1
          have KC : ∀ (V : World), Env w V [g1, g2, Hp.box bw [.int .i64 x.a, .int .i64 x.b, .int .i64 x.c] 81] → V.cell? ⟨bw, 2, none⟩ = some (.int .i64 x.c) := fun V E => E.cell 2 rfl 2 rfl
          rcases (show (decide (0 < t) == decide (x.c < 0)) = true ∨ (decide (0 < t) == decide (x.c < 0)) = false by cases (decide (0 < t) == decide (x.c < 0)) <;> simp) with hb | hb
          case inl =>
            have HN := HN1 hb
            have hb' : decide (0 < t) = decide (x.c < 0) := by simpa using hb
            clear HN1 HN2 hb
            go_region_held3 (fun V => V.cell? ⟨bw, 2, none⟩ = some (.int .i64 x.c)) (first | go_keep | (exact hkeep))
              (first
                | (go_at_call 39; ((with_reducible refine (TT _ _ (by repeat (first | (with_reducible exact E) | (with_reducible apply Env.drew) | (with_reducible apply Env.drewN) | (with_reducible apply Env.alloc'))) rfl).mono ?_)); rintro e w3 ⟨rfl, E3⟩; have hkeep := KC _ E3)
                | fail)
            all_goals
              have E4 := E3.drop 2
              simp at E4
              go_wp2
              go_roundw
              case rel => exact ⟨q + 1, q, by omega, by go_num, rfl, HN, (by repeat (first | (with_reducible exact E4) | (with_reducible apply Env.drew) | (with_reducible apply Env.drewN) | (with_reducible apply Env.alloc')))⟩
              case measure => simp [intOf]; omega
          case inr =>
            have HN := HN2 hb
            have hb' : decide (0 < t) = !decide (x.c < 0) := by cases h1 : decide (0 < t) <;> cases h2 : decide (x.c < 0) <;> simp_all
            clear HN1 HN2 hb
            go_region_held3 (fun V => V.cell? ⟨bw, 2, none⟩ = some (.int .i64 x.c)) (first | go_keep | (exact hkeep))
              (first
                | (go_at_call 39; ((with_reducible refine (TT _ _ (by repeat (first | (with_reducible exact E) | (with_reducible apply Env.drew) | (with_reducible apply Env.drewN) | (with_reducible apply Env.alloc'))) rfl).mono ?_)); rintro e w3 ⟨rfl, E3⟩; have hkeep := KC _ E3)
                | fail)
            all_goals
              have E4 := E3.drop 2
              simp at E4
              go_wp2
              go_roundw
              case rel => exact ⟨q + 1, kk, by omega, by go_num, rfl, HN, (by repeat (first | (with_reducible exact E4) | (with_reducible apply Env.drew) | (with_reducible apply Env.drewN) | (with_reducible apply Env.alloc')))⟩
              case measure => simp [intOf]; omega
        · obtain rfl : q = n := by omega
          have hPick : OfPick (sumC R) lf kk := by
            rcases HPK.out with ⟨x, h1, h2, _⟩ | ⟨h1, h2⟩
            · exact .inl ⟨x, h1, h2⟩
            · exact .inr ⟨h1, by rw [List.take_of_length_le (by omega)] at h2; exact h2⟩
          have hkk : kk < lf.length := by
            rcases HPK.out with ⟨x, h1, _, _⟩ | ⟨h1, _⟩
            · exact (List.getElem?_eq_some_iff.1 h1).1
            · omega
          clear HPK
          obtain ⟨x, hx⟩ := some_of_lt hkk
          obtain ⟨hE, V'⟩ := V.next g hm hPick hx.out
          obtain ⟨bx, ox, rfl, d0, d1, d2⟩ := o.sl.tri (E.sub 1 rfl) hx
          have MM := fun (W : World) (L : List Hp) (E : Env w W L) (hi : L[0]? = some g1) => Regi.move S E 0 hi x.a x.b x.c ⟨hE, rfl⟩
          generalize moveR R x.a x.b x.c = R2 at *
          have i1 : (0 : Int) ≤ (kk : Int) := by omega
          have i2 : (kk : Int) < (q : Int) := by omega
          have lc := o.le
          have lcm := o.max
          unfold maxLen at lcm
          have i3 : (kk : Int) ≤ (n2 : Int) := by omega
          have i4 : (kk : Int) + 1 ≤ (q : Int) := by omega
          have i5 : (0 : Int) ≤ (kk : Int) + 1 := by omega
          have i6 : (q : Int) ≤ (n2 : Int) := by omega
          have hwp : IntKind.i64.wrap ((kk : Int) + 1) = (kk : Int) + 1 := by rw [IntKind.wrap_i64]; omega
          have HK : Hid ((lf.take kk).length = kk) := by unfold Hid; rw [List.length_take]; omega
          have HD : Hid ((lf.drop (kk + 1)).length = q - (kk + 1)) := by unfold Hid; rw [List.length_drop, hn]
          have HE : Hid (lf.take kk ++ lf.drop (kk + 1) = lf.eraseIdx kk) := by unfold Hid; rw [List.eraseIdx_eq_take_drop_succ]
          have HEl : Hid ((lf.eraseIdx kk).length = q - 1) := by unfold Hid; rw [List.length_eraseIdx_of_lt hkk]; omega
          have hkq : kk < q := by omega
          have ok := o.take kk
          have sd := o.sl.behind (kk + 1)
          have KC : ∀ (V : World) (g1' : Hp), Env w V [g1', g2] → V.cell? ⟨bx, ox + kk * 3, none⟩ = some (.int .i64 x.a) ∧ V.cell? ⟨bx, ox + kk * 3 + 1, none⟩ = some (.int .i64 x.b) ∧ V.cell? ⟨bx, ox + kk * 3 + 2, none⟩ = some (.int .i64 x.c) := fun V g1' E => by
            obtain ⟨b', o', e, h0, h1, h2⟩ := o.sl.tri (E.sub 1 rfl) hx
            cases e; exact ⟨h0, h1, h2⟩
          generalize lf.eraseIdx kk = le at *
          generalize lf.take kk = lt1 at *
          generalize lf.drop (kk + 1) = lt2 at *
          clear hx hPick hE V
          go_upto_region 13 with fail
          go_region_held3 (fun V => V.cell? ⟨bx, ox + kk * 3, none⟩ = some (.int .i64 x.a) ∧ V.cell? ⟨bx, ox + kk * 3 + 1, none⟩ = some (.int .i64 x.b) ∧ V.cell? ⟨bx, ox + kk * 3 + 2, none⟩ = some (.int .i64 x.c)) (first | go_keep | (exact hkeep))
            (first
              | (go_at_call 36; ((with_reducible refine (MM _ _ (by repeat (first | (with_reducible exact E) | (with_reducible apply Env.drew) | (with_reducible apply Env.drewN) | (with_reducible apply Env.alloc'))) rfl).mono ?_)); rintro e w3 ⟨g3, rfl, S3, E3⟩; simp only [List.set_cons_zero] at E3; have hkeep := KC _ _ E3)
              | fail)
          all_goals
            clear d0 d1 d2
            go_upto_region 15 with fail
            go_region_held3 (fun V => True) (first | go_keep | (go_split_ands; trivial))
              (first
                | (refine step_eappF 1 Try.underlying77 info_bucket (by repeat (first | (with_reducible exact E3) | (with_reducible apply Env.drew) | (with_reducible apply Env.drewN) | (with_reducible apply Env.alloc'))) (by rfl) ok sd (Env.sub (by repeat (first | (with_reducible exact E3) | (with_reducible apply Env.drew) | (with_reducible apply Env.drewN) | (with_reducible apply Env.alloc'))) 1 rfl) kk (q - (kk + 1)) HK.out HD.out kTri_flat (by rfl) (by rfl) (by rfl) (n2 - (kk + 1)) (by rfl) (by rfl) (by omega) (by omega) ?_; intro C4 n4 w4 h4 o4 E4)
                | fail)
            all_goals
              simp at E4
              generalize (if n2 = kk + 1 then some (⟨bx, ox, none⟩ : Addr) else some ⟨bx, ox + (kk + 1) * 3, none⟩) = BB
              try go_wp2
              go_roundw
              case rel => exact ⟨q - 1, n4, C4, _, _, R2, le, by rw [show kk + (q - (kk + 1)) = q - 1 by omega], HEl.out, by omega, V', S3, by rw [HE.out] at o4; exact o4, (by repeat (first | (with_reducible exact E4) | (with_reducible apply Env.drew) | (with_reducible apply Env.drewN) | (with_reducible apply Env.alloc')))⟩
              case measure => simp; omega
    · obtain rfl : n = 0 := by omega
      obtain rfl : lf = [] := List.eq_nil_of_length_eq_zero hn
      obtain rfl := V.fin g
      have UM := E.made (h := g1) (by simp)
      go_wp2
      go_ret
      exact ⟨g1, c, rfl, S, UM⟩
end Go.Proofs.Ytdcfojohgcmpcaa
end
section
/- The walk of law10.BucketSums. -/
namespace Go.Sl
section
variable {l : List STri}
theorem recl_get (g : GoodR l) {c y c2 y2 n : Int} (h : reclE l c y c2 y2 n = 0) (c' y' : Int) :
    getB (reclR l c y c2 y2 n) c' y' = if c' = c2 ∧ y' = y2 then getB l c2 y2 + n else if c' = c ∧ y' = y then getB l c y - n else getB l c' y' := by
  unfold reclR
  rw [if_pos h, getB_setB (rising_setB g.rise _ _ _), getB_setB g.rise]
theorem recl_sum (g : GoodR l) {c y c2 y2 n : Int} (h : reclE l c y c2 y2 n = 0) : sumC (reclR l c y c2 y2 n) = sumC l := by
  obtain ⟨_, _, _, hne, _, _, _⟩ := reclE_ok h
  unfold reclR
  rw [if_pos h, sumC_setB (rising_setB g.rise _ _ _), sumC_setB g.rise, getB_setB g.rise, if_neg fun e => hne ⟨e.1.symm, e.2.symm⟩]
  omega
theorem GoodR.recl' (g : GoodR l) (c y c2 y2 n : Int) : GoodR (reclR l c y c2 y2 n) := by
  unfold reclR
  split
  · rename_i h
    obtain ⟨h1, h2, _, _, h5, h6, h7⟩ := reclE_ok h
    refine ⟨rising_setB (rising_setB g.rise _ _ _) _ _ _, fun x hx => ?_, fun x hx => ?_, fun x hx => ?_, h7⟩
    all_goals
      rcases mem_setB.1 hx with ⟨h0, rfl⟩ | ⟨hx, _⟩
      · first | exact h0 | exact h6 | exact h2
      · rcases mem_setB.1 hx with ⟨h0, rfl⟩ | ⟨hx, _⟩
        · first | exact h0 | exact h5 | exact h1
        · first | exact g.nz x hx | exact g.mon x hx | exact g.rng x hx
  · exact g
/-- A bucket has what a register's set lays: two registers alike in all buckets but for the order are one; here the one set back. -/
theorem set_back {m : List STri} (hm : RisingR m) (mz : ∀ b ∈ m, b.c ≠ 0) (g : GoodR l) (h : ∀ c y, getB m c y = getB l c y) : m = l := by
  have key : ∀ x, x ∈ m ↔ x ∈ l := fun x => by
    have e : ∀ {l : List STri}, RisingR l → (∀ b ∈ l, b.c ≠ 0) → (x ∈ l ↔ getB l x.a x.b = x.c ∧ x.c ≠ 0) := fun {l} hr hz => by
      constructor
      · intro hx
        have h1 := find_mem (o := ordPair) (key := rkey) hr hx
        refine ⟨?_, hz x hx⟩
        unfold getB; rw [show ((x.a, x.b) : Int × Int) = rkey x from rfl, h1]
      · rintro ⟨h1, h2⟩
        unfold getB at h1
        cases hf : find rkey (x.a, x.b) l with
        | none => rw [hf] at h1; exact absurd h1.symm h2
        | some y =>
          rw [hf] at h1
          obtain ⟨hm, hk⟩ := find_some hf
          have : y = x := by cases x; cases y; simp [rkey] at hk h1; simp [hk, h1]
          rw [← this]; exact hm
    rw [e hm mz, e g.rise g.nz, h]
  exact Rising.ext ordPair rkey hm g.rise key
theorem nz_setB {m : List STri} (h : ∀ b ∈ m, b.c ≠ 0) (c y n : Int) : ∀ b ∈ setB m c y n, b.c ≠ 0 := fun b hb => by
  rcases mem_setB.1 hb with ⟨h0, rfl⟩ | ⟨h1, _⟩
  · exact h0
  · exact h b h1
theorem recl_back (g : GoodR l) {c y c2 y2 n : Int} (h : reclE l c y c2 y2 n = 0) : reclE (reclR l c y c2 y2 n) c2 y2 c y n = 0 ∧ reclR (reclR l c y c2 y2 n) c2 y2 c y n = l := by
  obtain ⟨h1, h2, h3, hne, h5, h6, h7⟩ := reclE_ok h
  have G := g.recl' c y c2 y2 n
  have HG := recl_get g h
  have e1 : getB (reclR l c y c2 y2 n) c2 y2 - n = getB l c2 y2 := by rw [HG, if_pos ⟨rfl, rfl⟩]; omega
  have e2 : getB (reclR l c y c2 y2 n) c y + n = getB l c y := by rw [HG, if_neg hne, if_pos ⟨rfl, rfl⟩]; omega
  have hb : setB (setB (reclR l c y c2 y2 n) c2 y2 (getB l c2 y2)) c y (getB l c y) = l := by
    refine set_back (rising_setB (rising_setB G.rise _ _ _) _ _ _) (nz_setB (nz_setB G.nz _ _ _) _ _ _) g fun c' y' => ?_
    rw [getB_setB (rising_setB G.rise _ _ _), getB_setB G.rise, HG]
    by_cases k1 : c' = c ∧ y' = y
    · rw [if_pos k1, k1.1, k1.2]
    · rw [if_neg k1]
      by_cases k2 : c' = c2 ∧ y' = y2
      · rw [if_pos k2, k2.1, k2.2]
      · rw [if_neg k2, if_neg k2, if_neg k1]
  have b1 := g.get c y
  have b2 := g.get c2 y2
  have hE : reclE (reclR l c y c2 y2 n) c2 y2 c y n = 0 := by
    unfold reclE
    rw [e1, e2, hb, if_neg (by simp [h1, h2, h3]; exact fun a b => hne ⟨a.symm, b.symm⟩), if_neg (by simp [money]; omega), if_neg (by have := g.len; omega)]
  exact ⟨hE, by rw [show reclR (reclR l c y c2 y2 n) c2 y2 c y n = setB (setB (reclR l c y c2 y2 n) c2 y2 (getB (reclR l c y c2 y2 n) c2 y2 - n)) c y (getB (reclR l c y c2 y2 n) c y + n) from if_pos hE, e1, e2, hb]⟩
theorem move_sum (g : GoodR l) {c y n : Int} (h : moveE l c y n = 0) : sumC (moveR l c y n) = sumC l + n := by
  unfold moveR; rw [if_pos h, sumC_setB g.rise]; omega
theorem move_back (g : GoodR l) (hm : money (sumC l) = true) {c y n : Int} (h : moveE l c y n = 0) : moveE (moveR l c y n) c y (-n) = 0 ∧ moveR (moveR l c y n) c y (-n) = l := by
  obtain ⟨h1, h2, h3, h4, h5⟩ := moveE_ok h
  have G := g.move c y n
  have HS := move_sum g h
  have hR : moveR l c y n = setB l c y (getB l c y + n) := by unfold moveR; rw [if_pos h]
  have e1 : getB (moveR l c y n) c y + -n = getB l c y := by rw [hR, getB_setB g.rise, if_pos ⟨rfl, rfl⟩]; omega
  have hb : setB (moveR l c y n) c y (getB l c y) = l := by
    refine set_back (rising_setB G.rise _ _ _) (nz_setB G.nz _ _ _) g fun c' y' => ?_
    rw [getB_setB G.rise, hR, getB_setB g.rise]
    by_cases k1 : c' = c ∧ y' = y
    · rw [if_pos k1, k1.1, k1.2]
    · rw [if_neg k1, if_neg k1]
  have b1 := g.get c y
  have h2' : -100000000000 ≤ n ∧ n ≤ 100000000000 := by simpa [money] using h2
  have hm' : -100000000000 ≤ sumC l ∧ sumC l ≤ 100000000000 := by simpa [money] using hm
  have hE : moveE (moveR l c y n) c y (-n) = 0 := by
    unfold moveE
    rw [e1, HS, hb, if_neg (by simp [h1, money]; omega), if_neg (by simp [money]; omega), if_neg (by have := g.len; omega)]
  exact ⟨hE, by rw [show moveR (moveR l c y n) c y (-n) = setB (moveR l c y n) c y (getB (moveR l c y n) c y + -n) from if_pos hE, e1, hb]⟩
end
end Go.Sl
namespace Go.Proofs.Ytdcfojohgcmpcaa
open Go.RowKit Go.Sl
set_option maxHeartbeats 4000000
set_option maxRecDepth 100000
set_option linter.unusedSimpArgs false
theorem bucketSums_calls (A : Option Addr) (ca : Nat) (zs : List Int) (c0 y0 d0 z0 n0 : Int) (k1 : Hp) (w : World) (hs1 : k1.sub w) (s1 : Sl kInt k1 A ca zs) (hz : ∀ z ∈ zs, I64 z) :
    Calls Try.prog 12 #[.slice A zs.length ca, .int .i64 c0, .int .i64 y0, .int .i64 d0, .int .i64 z0, .int .i64 n0] w fun e w' => e = .returned (.bool true) ∧ Below w.heap.size w w' := by
  have E0 := Env.start w
  have PC := playRegister_calls A ca zs k1 w hs1 s1 hz
  have g := regOf_good zs
  have hm := regOf_money zs
  generalize regOf zs = l at *
  have W1 := fun W => within_calls c0 9 W (by omega) (by omega)
  have W2 := fun W => within_calls y0 100 W (by omega) (by omega)
  have W3 := fun W => within_calls d0 9 W (by omega) (by omega)
  have W4 := fun W => within_calls z0 100 W (by omega) (by omega)
  have W5 := fun W => within_calls n0 2001 W (by omega) (by omega)
  have a1 := within_lo c0 (n := 9) (by omega)
  have a2 := within_hi c0 (n := 9) (by omega)
  have a3 := within_lo d0 (n := 9) (by omega)
  have a4 := within_hi d0 (n := 9) (by omega)
  have a5 := within_lo n0 (n := 2001) (by omega)
  have a6 := within_hi n0 (n := 2001) (by omega)
  generalize within c0 9 = rc at *
  generalize within y0 100 = y at *
  generalize within d0 9 = rd at *
  generalize within z0 100 = y2 at *
  generalize within n0 2001 = rn at *
  go_enter Try.func12, Try.ntmps12
  go_wp2_with fail
  refine PC.mono ?_
  rintro e w1 ⟨h1, b1, rfl, p1, u1⟩
  have E1 := E0.new u1
  clear PC hs1 s1 hz
  go_wp2_with fail
  refine (of10_calls b1 l h1 w1 u1.sub p1 g hm).mono ?_
  rintro e w2 ⟨h2, c1, rfl, S2, u2⟩
  have E2 := (E1.new u2).drop 0
  simp at E2
  clear u1 u2 p1 E1
  go_wp2_with fail
  refine (Regi.rows S2 E2 0 rfl l.length rfl).mono ?_
  rintro e w3 ⟨C3, n3, h3, rfl, o3, E3⟩
  simp at E3
  obtain ⟨T, HT⟩ : ∃ T, Hid (sumC l = T) := ⟨_, rfl⟩
  go_wp2_with fail
  refine (Regi.total S2 E3 0 rfl HT.out).mono ?_
  rintro e w4 ⟨rfl, E4⟩
  have lm := o3.small
  clear E2 E3
  go_wp2_with fail
  go_loopw [16, 30] (fun s i wr => ∃ (q : Nat), q ≤ l.length ∧ i = .int .i64 q ∧ s = .int .i64 (sumC (l.take q)) ∧ Env w wr [h2, h3]) (fun _ i _ => l.length - (intOf i).toNat)
  case atStart => exact ⟨0, by omega, rfl, rfl, E4⟩
  case round =>
    clear E4
    obtain ⟨q, hq, rfl, rfl, E⟩ := hrel
    by_cases hlt : q < l.length
    · obtain ⟨x, hx⟩ := some_of_lt hlt
      obtain ⟨bx, ox, rfl, d1, d2, d3⟩ := o3.sl.tri (E.sub 1 rfl) hx
      have i1 : (0 : Int) ≤ (q : Int) := by omega
      have i2 : (q : Int) < (l.length : Int) := by omega
      have q1 := mem_len g.mon x (List.mem_of_getElem? hx.out)
      have q2 := sumC_bd (m := 100000000000) (by omega) (l.take q) fun b hb => mem_len g.mon b (List.mem_of_mem_take hb)
      rw [List.length_take] at q2
      have hl12 := g.len
      obtain ⟨q3, q4⟩ : -1000000000000000 ≤ sumC (l.take q) ∧ sumC (l.take q) ≤ 1000000000000000 := by omega
      clear q2
      have HS : Hid (sumC (l.take (q + 1)) = sumC (l.take q) + x.c) := by unfold Hid; rw [take_next hx, sumC_snoc]
      have hxz : (x.c == 0) = false := by simpa using g.nz x (List.mem_of_getElem? hx.out)
      have hgx : getB l x.a x.b = x.c := by
        unfold getB; rw [show ((x.a, x.b) : Int × Int) = rkey x from rfl, find_mem (o := ordPair) g.rise (List.mem_of_getElem? hx.out)]
      have GG := fun (W : World) (L : List Hp) (E : Env w W L) (hi : L[0]? = some h2) => Regi.get S2 E 0 hi x.a x.b hgx
      generalize sumC (l.take q) = sq at *
      have KC : ∀ (V : World) (bw : Nat), Env w V [h2, h3, Hp.box bw [.int .i64 x.a, .int .i64 x.b, .int .i64 x.c] 81] → V.cell? ⟨bw, 0, none⟩ = some (.int .i64 x.a) ∧ V.cell? ⟨bw, 1, none⟩ = some (.int .i64 x.b) ∧ V.cell? ⟨bw, 2, none⟩ = some (.int .i64 x.c) := fun V bw E => ⟨E.cell 2 rfl 0 rfl, E.cell 2 rfl 1 rfl, E.cell 2 rfl 2 rfl⟩
      by_cases h0 : q = 0
      · have t0 : decide (0 < (q : Int)) = false := by simp; omega
        subst h0
        simp only [Nat.zero_mul, Nat.add_zero] at d1 d2 d3
        go_upto_region 9 with fail
        replace E := E.alloc (.cells #[.int .i64 x.a, .int .i64 x.b, .int .i64 x.c] 81)
        simp at E
        obtain ⟨W, hW⟩ : ∃ W : World, W = wr.alloc (.cells #[.int .i64 x.a, .int .i64 x.b, .int .i64 x.c] 81) := ⟨_, rfl⟩
        rw [← hW] at E
        rw [← hW]
        clear hW
        have q0 := E.cell 2 rfl 0 rfl
        have q1 := E.cell 2 rfl 1 rfl
        have q2 := E.cell 2 rfl 2 rfl
        generalize wr.heap.size = bw at *
        go_upto_region 10 with fail
        refine wp_region_held_drew (S := (fun V => V.cell? ⟨bw, 0, none⟩ = some (.int .i64 x.a) ∧ V.cell? ⟨bw, 1, none⟩ = some (.int .i64 x.b) ∧ V.cell? ⟨bw, 2, none⟩ = some (.int .i64 x.c))) (by kernel_rfl) ?_ (fun hHeld => ?_)
        · (try dsimp only)
          first | (go_keep)
        refine take_on (i := 0) (by (simp only [List.getElem?_toArray, List.getElem?_cons_succ, List.getElem?_cons_zero]) <;> rfl) (by kernel_rfl) (by kernel_rfl) (by kernel_rfl) (by intro _ _ _ _ h; exact h) (by rfl) (by assumption) ?_
        apply Exists.intro
        refine ⟨?_, ?_⟩
        · intro W0 hSw
          try dsimp only at hSw
          go_simp
          try (with_reducible rfl)
        try simp only [Act.put, List.setIfInBounds_toArray, List.set_cons_zero, List.set_cons_succ]
        refine take_on (i := 1) (by (simp only [List.getElem?_toArray, List.getElem?_cons_succ, List.getElem?_cons_zero]) <;> rfl) (by kernel_rfl) (by kernel_rfl) (by kernel_rfl) (by intro _ _ _ _ h; exact h) (by rfl) (by assumption) ?_
        apply Exists.intro
        refine ⟨?_, ?_⟩
        · intro W0 hSw
          try dsimp only at hSw
          go_simp
          try (with_reducible rfl)
        try simp only [Act.put, List.setIfInBounds_toArray, List.set_cons_zero, List.set_cons_succ]
        refine take_on (i := 2) (by (simp only [List.getElem?_toArray, List.getElem?_cons_succ, List.getElem?_cons_zero]) <;> rfl) (by kernel_rfl) (by kernel_rfl) (by kernel_rfl) (by intro _ _ _ _ h; exact h) (by rfl) (by assumption) ?_
        apply Exists.intro
        refine ⟨?_, ?_⟩
        · intro W0 hSw
          try dsimp only at hSw
          go_simp
          try (with_reducible rfl)
        try simp only [Act.put, List.setIfInBounds_toArray, List.set_cons_zero, List.set_cons_succ]
        refine take_on (i := 3) (by (simp only [List.getElem?_toArray, List.getElem?_cons_succ, List.getElem?_cons_zero]) <;> rfl) (by kernel_rfl) (by kernel_rfl) (by kernel_rfl) (by intro _ _ _ _ h; exact h) (by rfl) (by assumption) ?_
        apply Exists.intro
        refine ⟨?_, ?_⟩
        · intro W0 hSw
          try dsimp only at hSw
          go_simp
          try (with_reducible rfl)
        try simp only [Act.put, List.setIfInBounds_toArray, List.set_cons_zero, List.set_cons_succ]
        refine take_on (i := 4) (by (simp only [List.getElem?_toArray, List.getElem?_cons_succ, List.getElem?_cons_zero]) <;> rfl) (by kernel_rfl) (by kernel_rfl) (by kernel_rfl) (by intro _ _ _ _ h; exact h) (by rfl) (by assumption) ?_
        apply Exists.intro
        refine ⟨?_, ?_⟩
        · intro W0 hSw
          try dsimp only at hSw
          go_simp
          try (with_reducible rfl)
        try simp only [Act.put, List.setIfInBounds_toArray, List.set_cons_zero, List.set_cons_succ]
        refine take_on (i := 5) (by (simp only [List.getElem?_toArray, List.getElem?_cons_succ, List.getElem?_cons_zero]) <;> rfl) (by kernel_rfl) (by kernel_rfl) (by kernel_rfl) (by intro _ _ _ _ h; exact h) (by rfl) (by assumption) ?_
        apply Exists.intro
        refine ⟨?_, ?_⟩
        · intro W0 hSw
          try dsimp only at hSw
          go_simp
          try (with_reducible rfl)
        try simp only [Act.put, List.setIfInBounds_toArray, List.set_cons_zero, List.set_cons_succ]
        refine take_on (i := 6) (by (simp only [List.getElem?_toArray, List.getElem?_cons_succ, List.getElem?_cons_zero]) <;> rfl) (by kernel_rfl) (by kernel_rfl) (by kernel_rfl) (by intro _ _ _ _ h; exact h) (by rfl) (by assumption) ?_
        apply Exists.intro
        refine ⟨?_, ?_⟩
        · intro W0 hSw
          try dsimp only at hSw
          go_simp
          try (with_reducible rfl)
        try simp only [Act.put, List.setIfInBounds_toArray, List.set_cons_zero, List.set_cons_succ]
        refine take_on (i := 7) (by (simp only [List.getElem?_toArray, List.getElem?_cons_succ, List.getElem?_cons_zero]) <;> rfl) (by kernel_rfl) (by kernel_rfl) (by kernel_rfl) (by intro _ _ _ _ h; exact h) (by rfl) (by assumption) ?_
        apply Exists.intro
        refine ⟨?_, ?_⟩
        · intro W0 hSw
          try dsimp only at hSw
          go_simp
          try (with_reducible rfl)
        try simp only [Act.put, List.setIfInBounds_toArray, List.set_cons_zero, List.set_cons_succ]
        refine take_on (i := 8) (by (simp only [List.getElem?_toArray, List.getElem?_cons_succ, List.getElem?_cons_zero]) <;> rfl) (by kernel_rfl) (by kernel_rfl) (by kernel_rfl) (by intro _ _ _ _ h; exact h) (by rfl) (by assumption) ?_
        apply Exists.intro
        refine ⟨?_, ?_⟩
        · intro W0 hSw
          try dsimp only at hSw
          go_simp
          try (with_reducible rfl)
        try simp only [Act.put, List.setIfInBounds_toArray, List.set_cons_zero, List.set_cons_succ]
        refine take_on (i := 10) (by (simp only [List.getElem?_toArray, List.getElem?_cons_succ, List.getElem?_cons_zero]) <;> rfl) (by kernel_rfl) (by kernel_rfl) (by kernel_rfl) (by intro _ _ _ _ h; exact h) (by rfl) (by assumption) ?_
        apply Exists.intro
        refine ⟨?_, ?_⟩
        · intro W0 hSw
          try dsimp only at hSw
          go_simp
          try (with_reducible rfl)
        try simp only [Act.put, List.setIfInBounds_toArray, List.set_cons_zero, List.set_cons_succ]
        refine take_on (i := 11) (by (simp only [List.getElem?_toArray, List.getElem?_cons_succ, List.getElem?_cons_zero]) <;> rfl) (by kernel_rfl) (by kernel_rfl) (by kernel_rfl) (by intro _ _ _ _ h; exact h) (by rfl) (by assumption) ?_
        apply Exists.intro
        refine ⟨?_, ?_⟩
        · intro W0 hSw
          try dsimp only at hSw
          go_simp
          try (with_reducible rfl)
        try simp only [Act.put, List.setIfInBounds_toArray, List.set_cons_zero, List.set_cons_succ]
        refine wpAnyH_ready (rs := [9]) (by kernel_rfl) (by simp) ?_
        refine AllReadyH.cons (by (simp only [List.getElem?_toArray, List.getElem?_cons_succ, List.getElem?_cons_zero]) <;> rfl) (fun K hK => ?_) AllReadyH.nil
        go_simp
        refine (GG _ _ (by repeat (first | (with_reducible exact E) | (with_reducible apply Env.drew) | (with_reducible apply Env.drewN) | (with_reducible apply Env.alloc'))) rfl).mono ?_
        rintro e w5 ⟨rfl, E5⟩
        have hkeep := KC _ _ E5
        go_wp2_with fail
        refine hK.out _ _ ?_ (fun hHeld => ?_)
        · (try dsimp only)
          first | (exact hkeep) | (go_keep)
        clear hK K
        try simp only [Act.put, List.setIfInBounds_toArray, List.set_cons_zero, List.set_cons_succ]
        refine take_on (i := 12) (by (simp only [List.getElem?_toArray, List.getElem?_cons_succ, List.getElem?_cons_zero]) <;> rfl) (by kernel_rfl) (by kernel_rfl) (by kernel_rfl) (by intro _ _ _ _ h; exact h) (by rfl) (by assumption) ?_
        apply Exists.intro
        refine ⟨?_, ?_⟩
        · intro W0 hSw
          try dsimp only at hSw
          go_simp
          try (with_reducible rfl)
        try simp only [Act.put, List.setIfInBounds_toArray, List.set_cons_zero, List.set_cons_succ]
        refine take_on (i := 13) (by (simp only [List.getElem?_toArray, List.getElem?_cons_succ, List.getElem?_cons_zero]) <;> rfl) (by kernel_rfl) (by kernel_rfl) (by kernel_rfl) (by intro _ _ _ _ h; exact h) (by rfl) (by assumption) ?_
        apply Exists.intro
        refine ⟨?_, ?_⟩
        · intro W0 hSw
          try dsimp only at hSw
          go_simp
          try (with_reducible rfl)
        try simp only [Act.put, List.setIfInBounds_toArray, List.set_cons_zero, List.set_cons_succ]
        refine take_on (i := 14) (by (simp only [List.getElem?_toArray, List.getElem?_cons_succ, List.getElem?_cons_zero]) <;> rfl) (by kernel_rfl) (by kernel_rfl) (by kernel_rfl) (by intro _ _ _ _ h; exact h) (by rfl) (by assumption) ?_
        apply Exists.intro
        refine ⟨?_, ?_⟩
        · intro W0 hSw
          try dsimp only at hSw
          go_simp
          try (with_reducible rfl)
        try simp only [Act.put, List.setIfInBounds_toArray, List.set_cons_zero, List.set_cons_succ]
        refine take_on (i := 15) (by (simp only [List.getElem?_toArray, List.getElem?_cons_succ, List.getElem?_cons_zero]) <;> rfl) (by kernel_rfl) (by kernel_rfl) (by kernel_rfl) (by intro _ _ _ _ h; exact h) (by rfl) (by assumption) ?_
        apply Exists.intro
        refine ⟨?_, ?_⟩
        · intro W0 hSw
          try dsimp only at hSw
          go_simp
          try (with_reducible rfl)
        try simp only [Act.put, List.setIfInBounds_toArray, List.set_cons_zero, List.set_cons_succ]
        refine take_on (i := 16) (by (simp only [List.getElem?_toArray, List.getElem?_cons_succ, List.getElem?_cons_zero]) <;> rfl) (by kernel_rfl) (by kernel_rfl) (by kernel_rfl) (by intro _ _ _ _ h; exact h) (by rfl) (by assumption) ?_
        apply Exists.intro
        refine ⟨?_, ?_⟩
        · intro W0 hSw
          try dsimp only at hSw
          go_simp
          try (with_reducible rfl)
        try simp only [Act.put, List.setIfInBounds_toArray, List.set_cons_zero, List.set_cons_succ]
        refine take_on (i := 17) (by (simp only [List.getElem?_toArray, List.getElem?_cons_succ, List.getElem?_cons_zero]) <;> rfl) (by kernel_rfl) (by kernel_rfl) (by kernel_rfl) (by intro _ _ _ _ h; exact h) (by rfl) (by assumption) ?_
        apply Exists.intro
        refine ⟨?_, ?_⟩
        · intro W0 hSw
          try dsimp only at hSw
          go_simp
          try (with_reducible rfl)
        try simp only [Act.put, List.setIfInBounds_toArray, List.set_cons_zero, List.set_cons_succ]
        refine take_off (i := 18) (by (simp only [List.getElem?_toArray, List.getElem?_cons_succ, List.getElem?_cons_zero]) <;> rfl) (by kernel_rfl) (by kernel_rfl) (by kernel_rfl) (by intro _ _ _ _ h; exact h) (by rfl) (by assumption) ?_
        try simp only [Act.put, List.setIfInBounds_toArray, List.set_cons_zero, List.set_cons_succ]
        refine take_off (i := 19) (by (simp only [List.getElem?_toArray, List.getElem?_cons_succ, List.getElem?_cons_zero]) <;> rfl) (by kernel_rfl) (by kernel_rfl) (by kernel_rfl) (by intro _ _ _ _ h; exact h) (by rfl) (by assumption) ?_
        try simp only [Act.put, List.setIfInBounds_toArray, List.set_cons_zero, List.set_cons_succ]
        refine take_off (i := 20) (by (simp only [List.getElem?_toArray, List.getElem?_cons_succ, List.getElem?_cons_zero]) <;> rfl) (by kernel_rfl) (by kernel_rfl) (by kernel_rfl) (by intro _ _ _ _ h; exact h) (by rfl) (by assumption) ?_
        try simp only [Act.put, List.setIfInBounds_toArray, List.set_cons_zero, List.set_cons_succ]
        refine take_off (i := 21) (by (simp only [List.getElem?_toArray, List.getElem?_cons_succ, List.getElem?_cons_zero]) <;> rfl) (by kernel_rfl) (by kernel_rfl) (by kernel_rfl) (by intro _ _ _ _ h; exact h) (by rfl) (by assumption) ?_
        try simp only [Act.put, List.setIfInBounds_toArray, List.set_cons_zero, List.set_cons_succ]
        refine take_off (i := 22) (by (simp only [List.getElem?_toArray, List.getElem?_cons_succ, List.getElem?_cons_zero]) <;> rfl) (by kernel_rfl) (by kernel_rfl) (by kernel_rfl) (by intro _ _ _ _ h; exact h) (by rfl) (by assumption) ?_
        try simp only [Act.put, List.setIfInBounds_toArray, List.set_cons_zero, List.set_cons_succ]
        refine take_off (i := 23) (by (simp only [List.getElem?_toArray, List.getElem?_cons_succ, List.getElem?_cons_zero]) <;> rfl) (by kernel_rfl) (by kernel_rfl) (by kernel_rfl) (by intro _ _ _ _ h; exact h) (by rfl) (by assumption) ?_
        try simp only [Act.put, List.setIfInBounds_toArray, List.set_cons_zero, List.set_cons_succ]
        refine take_off (i := 24) (by (simp only [List.getElem?_toArray, List.getElem?_cons_succ, List.getElem?_cons_zero]) <;> rfl) (by kernel_rfl) (by kernel_rfl) (by kernel_rfl) (by intro _ _ _ _ h; exact h) (by rfl) (by assumption) ?_
        try simp only [Act.put, List.setIfInBounds_toArray, List.set_cons_zero, List.set_cons_succ]
        refine take_off (i := 25) (by (simp only [List.getElem?_toArray, List.getElem?_cons_succ, List.getElem?_cons_zero]) <;> rfl) (by kernel_rfl) (by kernel_rfl) (by kernel_rfl) (by intro _ _ _ _ h; exact h) (by rfl) (by assumption) ?_
        try simp only [Act.put, List.setIfInBounds_toArray, List.set_cons_zero, List.set_cons_succ]
        refine take_off (i := 26) (by (simp only [List.getElem?_toArray, List.getElem?_cons_succ, List.getElem?_cons_zero]) <;> rfl) (by kernel_rfl) (by kernel_rfl) (by kernel_rfl) (by intro _ _ _ _ h; exact h) (by rfl) (by assumption) ?_
        try simp only [Act.put, List.setIfInBounds_toArray, List.set_cons_zero, List.set_cons_succ]
        refine take_off (i := 27) (by (simp only [List.getElem?_toArray, List.getElem?_cons_succ, List.getElem?_cons_zero]) <;> rfl) (by kernel_rfl) (by kernel_rfl) (by kernel_rfl) (by intro _ _ _ _ h; exact h) (by rfl) (by assumption) ?_
        try simp only [Act.put, List.setIfInBounds_toArray, List.set_cons_zero, List.set_cons_succ]
        refine take_off (i := 28) (by (simp only [List.getElem?_toArray, List.getElem?_cons_succ, List.getElem?_cons_zero]) <;> rfl) (by kernel_rfl) (by kernel_rfl) (by kernel_rfl) (by intro _ _ _ _ h; exact h) (by rfl) (by assumption) ?_
        try simp only [Act.put, List.setIfInBounds_toArray, List.set_cons_zero, List.set_cons_succ]
        refine take_off (i := 29) (by (simp only [List.getElem?_toArray, List.getElem?_cons_succ, List.getElem?_cons_zero]) <;> rfl) (by kernel_rfl) (by kernel_rfl) (by kernel_rfl) (by intro _ _ _ _ h; exact h) (by rfl) (by assumption) ?_
        try simp only [Act.put, List.setIfInBounds_toArray, List.set_cons_zero, List.set_cons_succ]
        refine take_off (i := 30) (by (simp only [List.getElem?_toArray, List.getElem?_cons_succ, List.getElem?_cons_zero]) <;> rfl) (by kernel_rfl) (by kernel_rfl) (by kernel_rfl) (by intro _ _ _ _ h; exact h) (by rfl) (by assumption) ?_
        try simp only [Act.put, List.setIfInBounds_toArray, List.set_cons_zero, List.set_cons_succ]
        refine take_off (i := 31) (by (simp only [List.getElem?_toArray, List.getElem?_cons_succ, List.getElem?_cons_zero]) <;> rfl) (by kernel_rfl) (by kernel_rfl) (by kernel_rfl) (by intro _ _ _ _ h; exact h) (by rfl) (by assumption) ?_
        try simp only [Act.put, List.setIfInBounds_toArray, List.set_cons_zero, List.set_cons_succ]
        refine take_off (i := 32) (by (simp only [List.getElem?_toArray, List.getElem?_cons_succ, List.getElem?_cons_zero]) <;> rfl) (by kernel_rfl) (by kernel_rfl) (by kernel_rfl) (by intro _ _ _ _ h; exact h) (by rfl) (by assumption) ?_
        try simp only [Act.put, List.setIfInBounds_toArray, List.set_cons_zero, List.set_cons_succ]
        refine take_off (i := 33) (by (simp only [List.getElem?_toArray, List.getElem?_cons_succ, List.getElem?_cons_zero]) <;> rfl) (by kernel_rfl) (by kernel_rfl) (by kernel_rfl) (by intro _ _ _ _ h; exact h) (by rfl) (by assumption) ?_
        try simp only [Act.put, List.setIfInBounds_toArray, List.set_cons_zero, List.set_cons_succ]
        refine take_off (i := 34) (by (simp only [List.getElem?_toArray, List.getElem?_cons_succ, List.getElem?_cons_zero]) <;> rfl) (by kernel_rfl) (by kernel_rfl) (by kernel_rfl) (by intro _ _ _ _ h; exact h) (by rfl) (by assumption) ?_
        try simp only [Act.put, List.setIfInBounds_toArray, List.set_cons_zero, List.set_cons_succ]
        refine take_off (i := 35) (by (simp only [List.getElem?_toArray, List.getElem?_cons_succ, List.getElem?_cons_zero]) <;> rfl) (by kernel_rfl) (by kernel_rfl) (by kernel_rfl) (by intro _ _ _ _ h; exact h) (by rfl) (by assumption) ?_
        try simp only [Act.put, List.setIfInBounds_toArray, List.set_cons_zero, List.set_cons_succ]
        refine take_off (i := 36) (by (simp only [List.getElem?_toArray, List.getElem?_cons_succ, List.getElem?_cons_zero]) <;> rfl) (by kernel_rfl) (by kernel_rfl) (by kernel_rfl) (by intro _ _ _ _ h; exact h) (by rfl) (by assumption) ?_
        try simp only [Act.put, List.setIfInBounds_toArray, List.set_cons_zero, List.set_cons_succ]
        refine take_off (i := 37) (by (simp only [List.getElem?_toArray, List.getElem?_cons_succ, List.getElem?_cons_zero]) <;> rfl) (by kernel_rfl) (by kernel_rfl) (by kernel_rfl) (by intro _ _ _ _ h; exact h) (by rfl) (by assumption) ?_
        try simp only [Act.put, List.setIfInBounds_toArray, List.set_cons_zero, List.set_cons_succ]
        refine take_off (i := 38) (by (simp only [List.getElem?_toArray, List.getElem?_cons_succ, List.getElem?_cons_zero]) <;> rfl) (by kernel_rfl) (by kernel_rfl) (by kernel_rfl) (by intro _ _ _ _ h; exact h) (by rfl) (by assumption) ?_
        try simp only [Act.put, List.setIfInBounds_toArray, List.set_cons_zero, List.set_cons_succ]
        refine take_off (i := 39) (by (simp only [List.getElem?_toArray, List.getElem?_cons_succ, List.getElem?_cons_zero]) <;> rfl) (by kernel_rfl) (by kernel_rfl) (by kernel_rfl) (by intro _ _ _ _ h; exact h) (by rfl) (by assumption) ?_
        try simp only [Act.put, List.setIfInBounds_toArray, List.set_cons_zero, List.set_cons_succ]
        refine take_off (i := 40) (by (simp only [List.getElem?_toArray, List.getElem?_cons_succ, List.getElem?_cons_zero]) <;> rfl) (by kernel_rfl) (by kernel_rfl) (by kernel_rfl) (by intro _ _ _ _ h; exact h) (by rfl) (by assumption) ?_
        try simp only [Act.put, List.setIfInBounds_toArray, List.set_cons_zero, List.set_cons_succ]
        refine take_off (i := 41) (by (simp only [List.getElem?_toArray, List.getElem?_cons_succ, List.getElem?_cons_zero]) <;> rfl) (by kernel_rfl) (by kernel_rfl) (by kernel_rfl) (by intro _ _ _ _ h; exact h) (by rfl) (by assumption) ?_
        try simp only [Act.put, List.setIfInBounds_toArray, List.set_cons_zero, List.set_cons_succ]
        refine take_off (i := 42) (by (simp only [List.getElem?_toArray, List.getElem?_cons_succ, List.getElem?_cons_zero]) <;> rfl) (by kernel_rfl) (by kernel_rfl) (by kernel_rfl) (by intro _ _ _ _ h; exact h) (by rfl) (by assumption) ?_
        try simp only [Act.put, List.setIfInBounds_toArray, List.set_cons_zero, List.set_cons_succ]
        refine take_off (i := 43) (by (simp only [List.getElem?_toArray, List.getElem?_cons_succ, List.getElem?_cons_zero]) <;> rfl) (by kernel_rfl) (by kernel_rfl) (by kernel_rfl) (by intro _ _ _ _ h; exact h) (by rfl) (by assumption) ?_
        try simp only [Act.put, List.setIfInBounds_toArray, List.set_cons_zero, List.set_cons_succ]
        refine take_off (i := 44) (by (simp only [List.getElem?_toArray, List.getElem?_cons_succ, List.getElem?_cons_zero]) <;> rfl) (by kernel_rfl) (by kernel_rfl) (by kernel_rfl) (by intro _ _ _ _ h; exact h) (by rfl) (by assumption) ?_
        try simp only [Act.put, List.setIfInBounds_toArray, List.set_cons_zero, List.set_cons_succ]
        refine take_off (i := 45) (by (simp only [List.getElem?_toArray, List.getElem?_cons_succ, List.getElem?_cons_zero]) <;> rfl) (by kernel_rfl) (by kernel_rfl) (by kernel_rfl) (by intro _ _ _ _ h; exact h) (by rfl) (by assumption) ?_
        try simp only [Act.put, List.setIfInBounds_toArray, List.set_cons_zero, List.set_cons_succ]
        refine take_off (i := 46) (by (simp only [List.getElem?_toArray, List.getElem?_cons_succ, List.getElem?_cons_zero]) <;> rfl) (by kernel_rfl) (by kernel_rfl) (by kernel_rfl) (by intro _ _ _ _ h; exact h) (by rfl) (by assumption) ?_
        try simp only [Act.put, List.setIfInBounds_toArray, List.set_cons_zero, List.set_cons_succ]
        refine take_off (i := 47) (by (simp only [List.getElem?_toArray, List.getElem?_cons_succ, List.getElem?_cons_zero]) <;> rfl) (by kernel_rfl) (by kernel_rfl) (by kernel_rfl) (by intro _ _ _ _ h; exact h) (by rfl) (by assumption) ?_
        try simp only [Act.put, List.setIfInBounds_toArray, List.set_cons_zero, List.set_cons_succ]
        refine take_off (i := 48) (by (simp only [List.getElem?_toArray, List.getElem?_cons_succ, List.getElem?_cons_zero]) <;> rfl) (by kernel_rfl) (by kernel_rfl) (by kernel_rfl) (by intro _ _ _ _ h; exact h) (by rfl) (by assumption) ?_
        try simp only [Act.put, List.setIfInBounds_toArray, List.set_cons_zero, List.set_cons_succ]
        refine take_on (i := 49) (by (simp only [List.getElem?_toArray, List.getElem?_cons_succ, List.getElem?_cons_zero]) <;> rfl) (by kernel_rfl) (by kernel_rfl) (by kernel_rfl) (by intro _ _ _ _ h; exact h) (by rfl) (by assumption) ?_
        apply Exists.intro
        refine ⟨?_, ?_⟩
        · intro W0 hSw
          try dsimp only at hSw
          go_simp
          try (with_reducible rfl)
        try simp only [Act.put, List.setIfInBounds_toArray, List.set_cons_zero, List.set_cons_succ]
        refine take_on (i := 50) (by (simp only [List.getElem?_toArray, List.getElem?_cons_succ, List.getElem?_cons_zero]) <;> rfl) (by kernel_rfl) (by kernel_rfl) (by kernel_rfl) (by intro _ _ _ _ h; exact h) (by rfl) (by assumption) ?_
        apply Exists.intro
        refine ⟨?_, ?_⟩
        · intro W0 hSw
          try dsimp only at hSw
          go_simp
          try (with_reducible rfl)
        try simp only [Act.put, List.setIfInBounds_toArray, List.set_cons_zero, List.set_cons_succ]
        refine wpAnyH_done (by kernel_rfl) ?_ _
        have E6 := E5.drop 2
        simp at E6
        go_wp2
        go_roundw
        case rel => exact ⟨1, by omega, by go_num, by rw [HS.out], E6⟩
        case measure => simp [intOf]; omega
      · have t0 : decide (0 < (q : Int)) = true := by simp; omega
        have t0n : decide (0 < q) = true := by simp; omega
        clear h0
        obtain ⟨m, hm0⟩ : ∃ m, q = m + 1 := ⟨q - 1, by have : decide (0 < q) = true := t0n; simp at this; omega⟩
        obtain ⟨y9, hy⟩ := some_of_lt (show m < l.length by omega)
        have hor : y9.a < x.a ∨ (y9.a = x.a ∧ y9.b < x.b) := by
          have h1 := List.pairwise_iff_getElem.1 g.rise m q (by omega) hlt (by omega)
          rw [(List.getElem?_eq_some_iff.1 hy.out).2, (List.getElem?_eq_some_iff.1 hx.out).2] at h1
          simpa [ordPair, rkey] using h1
        have i3 : (0 : Int) ≤ (m : Int) := by omega
        have i4 : (m : Int) < (l.length : Int) := by omega
        have hwm : IntKind.i64.wrap ((q : Int) - 1) = (m : Int) := by rw [IntKind.wrap_i64]; omega
        have KD : ∀ (V : World) (bw : Nat), Env w V [h2, h3, Hp.box bw [.int .i64 x.a, .int .i64 x.b, .int .i64 x.c] 81] → V.cell? ⟨bx, ox + m * 3, none⟩ = some (.int .i64 y9.a) ∧ V.cell? ⟨bx, ox + m * 3 + 1, none⟩ = some (.int .i64 y9.b) := fun V bw E => by
          obtain ⟨b', o', e, k0, k1, _⟩ := o3.sl.tri (E.sub 1 rfl) hy
          cases e; exact ⟨k0, k1⟩
        rcases hor with ho | ⟨ho, ho2⟩
        · have t3 : decide (x.a < y9.a) = false := by simp; omega
          have t4 : (x.a == y9.a) = false := by simp; omega
          clear hm0 ho
          go_upto_region 9 with fail
          replace E := E.alloc (.cells #[.int .i64 x.a, .int .i64 x.b, .int .i64 x.c] 81)
          simp at E
          obtain ⟨W, hW⟩ : ∃ W : World, W = wr.alloc (.cells #[.int .i64 x.a, .int .i64 x.b, .int .i64 x.c] 81) := ⟨_, rfl⟩
          rw [← hW] at E
          rw [← hW]
          clear hW
          have q0 := E.cell 2 rfl 0 rfl
          have q1 := E.cell 2 rfl 1 rfl
          have q2 := E.cell 2 rfl 2 rfl
          generalize wr.heap.size = bw at *
          have e0 := (KD _ _ E).1
          have e1 := (KD _ _ E).2
          go_upto_region 10 with fail
          refine wp_region_held_drew (S := (fun V => (V.cell? ⟨bw, 0, none⟩ = some (.int .i64 x.a) ∧ V.cell? ⟨bw, 1, none⟩ = some (.int .i64 x.b) ∧ V.cell? ⟨bw, 2, none⟩ = some (.int .i64 x.c)) ∧ V.cell? ⟨bx, ox + m * 3, none⟩ = some (.int .i64 y9.a) ∧ V.cell? ⟨bx, ox + m * 3 + 1, none⟩ = some (.int .i64 y9.b))) (by kernel_rfl) ?_ (fun hHeld => ?_)
          · (try dsimp only)
            first | (go_keep)
          refine take_on (i := 0) (by (simp only [List.getElem?_toArray, List.getElem?_cons_succ, List.getElem?_cons_zero]) <;> rfl) (by kernel_rfl) (by kernel_rfl) (by kernel_rfl) (by intro _ _ _ _ h; exact h) (by rfl) (by assumption) ?_
          apply Exists.intro
          refine ⟨?_, ?_⟩
          · intro W0 hSw
            try dsimp only at hSw
            go_simp
            try (with_reducible rfl)
          try simp only [Act.put, List.setIfInBounds_toArray, List.set_cons_zero, List.set_cons_succ]
          refine take_on (i := 1) (by (simp only [List.getElem?_toArray, List.getElem?_cons_succ, List.getElem?_cons_zero]) <;> rfl) (by kernel_rfl) (by kernel_rfl) (by kernel_rfl) (by intro _ _ _ _ h; exact h) (by rfl) (by assumption) ?_
          apply Exists.intro
          refine ⟨?_, ?_⟩
          · intro W0 hSw
            try dsimp only at hSw
            go_simp
            try (with_reducible rfl)
          try simp only [Act.put, List.setIfInBounds_toArray, List.set_cons_zero, List.set_cons_succ]
          refine take_on (i := 2) (by (simp only [List.getElem?_toArray, List.getElem?_cons_succ, List.getElem?_cons_zero]) <;> rfl) (by kernel_rfl) (by kernel_rfl) (by kernel_rfl) (by intro _ _ _ _ h; exact h) (by rfl) (by assumption) ?_
          apply Exists.intro
          refine ⟨?_, ?_⟩
          · intro W0 hSw
            try dsimp only at hSw
            go_simp
            try (with_reducible rfl)
          try simp only [Act.put, List.setIfInBounds_toArray, List.set_cons_zero, List.set_cons_succ]
          refine take_on (i := 3) (by (simp only [List.getElem?_toArray, List.getElem?_cons_succ, List.getElem?_cons_zero]) <;> rfl) (by kernel_rfl) (by kernel_rfl) (by kernel_rfl) (by intro _ _ _ _ h; exact h) (by rfl) (by assumption) ?_
          apply Exists.intro
          refine ⟨?_, ?_⟩
          · intro W0 hSw
            try dsimp only at hSw
            go_simp
            try (with_reducible rfl)
          try simp only [Act.put, List.setIfInBounds_toArray, List.set_cons_zero, List.set_cons_succ]
          refine take_on (i := 4) (by (simp only [List.getElem?_toArray, List.getElem?_cons_succ, List.getElem?_cons_zero]) <;> rfl) (by kernel_rfl) (by kernel_rfl) (by kernel_rfl) (by intro _ _ _ _ h; exact h) (by rfl) (by assumption) ?_
          apply Exists.intro
          refine ⟨?_, ?_⟩
          · intro W0 hSw
            try dsimp only at hSw
            go_simp
            try (with_reducible rfl)
          try simp only [Act.put, List.setIfInBounds_toArray, List.set_cons_zero, List.set_cons_succ]
          refine take_on (i := 5) (by (simp only [List.getElem?_toArray, List.getElem?_cons_succ, List.getElem?_cons_zero]) <;> rfl) (by kernel_rfl) (by kernel_rfl) (by kernel_rfl) (by intro _ _ _ _ h; exact h) (by rfl) (by assumption) ?_
          apply Exists.intro
          refine ⟨?_, ?_⟩
          · intro W0 hSw
            try dsimp only at hSw
            go_simp
            try (with_reducible rfl)
          try simp only [Act.put, List.setIfInBounds_toArray, List.set_cons_zero, List.set_cons_succ]
          refine take_on (i := 6) (by (simp only [List.getElem?_toArray, List.getElem?_cons_succ, List.getElem?_cons_zero]) <;> rfl) (by kernel_rfl) (by kernel_rfl) (by kernel_rfl) (by intro _ _ _ _ h; exact h) (by rfl) (by assumption) ?_
          apply Exists.intro
          refine ⟨?_, ?_⟩
          · intro W0 hSw
            try dsimp only at hSw
            go_simp
            try (with_reducible rfl)
          try simp only [Act.put, List.setIfInBounds_toArray, List.set_cons_zero, List.set_cons_succ]
          refine take_on (i := 7) (by (simp only [List.getElem?_toArray, List.getElem?_cons_succ, List.getElem?_cons_zero]) <;> rfl) (by kernel_rfl) (by kernel_rfl) (by kernel_rfl) (by intro _ _ _ _ h; exact h) (by rfl) (by assumption) ?_
          apply Exists.intro
          refine ⟨?_, ?_⟩
          · intro W0 hSw
            try dsimp only at hSw
            go_simp
            try (with_reducible rfl)
          try simp only [Act.put, List.setIfInBounds_toArray, List.set_cons_zero, List.set_cons_succ]
          refine take_on (i := 8) (by (simp only [List.getElem?_toArray, List.getElem?_cons_succ, List.getElem?_cons_zero]) <;> rfl) (by kernel_rfl) (by kernel_rfl) (by kernel_rfl) (by intro _ _ _ _ h; exact h) (by rfl) (by assumption) ?_
          apply Exists.intro
          refine ⟨?_, ?_⟩
          · intro W0 hSw
            try dsimp only at hSw
            go_simp
            try (with_reducible rfl)
          try simp only [Act.put, List.setIfInBounds_toArray, List.set_cons_zero, List.set_cons_succ]
          refine take_on (i := 10) (by (simp only [List.getElem?_toArray, List.getElem?_cons_succ, List.getElem?_cons_zero]) <;> rfl) (by kernel_rfl) (by kernel_rfl) (by kernel_rfl) (by intro _ _ _ _ h; exact h) (by rfl) (by assumption) ?_
          apply Exists.intro
          refine ⟨?_, ?_⟩
          · intro W0 hSw
            try dsimp only at hSw
            go_simp
            try (with_reducible rfl)
          try simp only [Act.put, List.setIfInBounds_toArray, List.set_cons_zero, List.set_cons_succ]
          refine take_on (i := 11) (by (simp only [List.getElem?_toArray, List.getElem?_cons_succ, List.getElem?_cons_zero]) <;> rfl) (by kernel_rfl) (by kernel_rfl) (by kernel_rfl) (by intro _ _ _ _ h; exact h) (by rfl) (by assumption) ?_
          apply Exists.intro
          refine ⟨?_, ?_⟩
          · intro W0 hSw
            try dsimp only at hSw
            go_simp
            try (with_reducible rfl)
          try simp only [Act.put, List.setIfInBounds_toArray, List.set_cons_zero, List.set_cons_succ]
          refine wpAnyH_ready (rs := [9]) (by kernel_rfl) (by simp) ?_
          refine AllReadyH.cons (by (simp only [List.getElem?_toArray, List.getElem?_cons_succ, List.getElem?_cons_zero]) <;> rfl) (fun K hK => ?_) AllReadyH.nil
          go_simp
          refine (GG _ _ (by repeat (first | (with_reducible exact E) | (with_reducible apply Env.drew) | (with_reducible apply Env.drewN) | (with_reducible apply Env.alloc'))) rfl).mono ?_
          rintro e w5 ⟨rfl, E5⟩
          have hkeep := And.intro (KC _ _ E5) (KD _ _ E5)
          go_wp2_with fail
          refine hK.out _ _ ?_ (fun hHeld => ?_)
          · (try dsimp only)
            first | (exact hkeep) | (go_keep)
          clear hK K
          try simp only [Act.put, List.setIfInBounds_toArray, List.set_cons_zero, List.set_cons_succ]
          refine take_on (i := 12) (by (simp only [List.getElem?_toArray, List.getElem?_cons_succ, List.getElem?_cons_zero]) <;> rfl) (by kernel_rfl) (by kernel_rfl) (by kernel_rfl) (by intro _ _ _ _ h; exact h) (by rfl) (by assumption) ?_
          apply Exists.intro
          refine ⟨?_, ?_⟩
          · intro W0 hSw
            try dsimp only at hSw
            go_simp
            try (with_reducible rfl)
          try simp only [Act.put, List.setIfInBounds_toArray, List.set_cons_zero, List.set_cons_succ]
          refine take_on (i := 13) (by (simp only [List.getElem?_toArray, List.getElem?_cons_succ, List.getElem?_cons_zero]) <;> rfl) (by kernel_rfl) (by kernel_rfl) (by kernel_rfl) (by intro _ _ _ _ h; exact h) (by rfl) (by assumption) ?_
          apply Exists.intro
          refine ⟨?_, ?_⟩
          · intro W0 hSw
            try dsimp only at hSw
            go_simp
            try (with_reducible rfl)
          try simp only [Act.put, List.setIfInBounds_toArray, List.set_cons_zero, List.set_cons_succ]
          refine take_on (i := 14) (by (simp only [List.getElem?_toArray, List.getElem?_cons_succ, List.getElem?_cons_zero]) <;> rfl) (by kernel_rfl) (by kernel_rfl) (by kernel_rfl) (by intro _ _ _ _ h; exact h) (by rfl) (by assumption) ?_
          apply Exists.intro
          refine ⟨?_, ?_⟩
          · intro W0 hSw
            try dsimp only at hSw
            go_simp
            try (with_reducible rfl)
          try simp only [Act.put, List.setIfInBounds_toArray, List.set_cons_zero, List.set_cons_succ]
          refine take_on (i := 15) (by (simp only [List.getElem?_toArray, List.getElem?_cons_succ, List.getElem?_cons_zero]) <;> rfl) (by kernel_rfl) (by kernel_rfl) (by kernel_rfl) (by intro _ _ _ _ h; exact h) (by rfl) (by assumption) ?_
          apply Exists.intro
          refine ⟨?_, ?_⟩
          · intro W0 hSw
            try dsimp only at hSw
            go_simp
            try (with_reducible rfl)
          try simp only [Act.put, List.setIfInBounds_toArray, List.set_cons_zero, List.set_cons_succ]
          refine take_on (i := 16) (by (simp only [List.getElem?_toArray, List.getElem?_cons_succ, List.getElem?_cons_zero]) <;> rfl) (by kernel_rfl) (by kernel_rfl) (by kernel_rfl) (by intro _ _ _ _ h; exact h) (by rfl) (by assumption) ?_
          apply Exists.intro
          refine ⟨?_, ?_⟩
          · intro W0 hSw
            try dsimp only at hSw
            go_simp
            try (with_reducible rfl)
          try simp only [Act.put, List.setIfInBounds_toArray, List.set_cons_zero, List.set_cons_succ]
          refine take_on (i := 17) (by (simp only [List.getElem?_toArray, List.getElem?_cons_succ, List.getElem?_cons_zero]) <;> rfl) (by kernel_rfl) (by kernel_rfl) (by kernel_rfl) (by intro _ _ _ _ h; exact h) (by rfl) (by assumption) ?_
          apply Exists.intro
          refine ⟨?_, ?_⟩
          · intro W0 hSw
            try dsimp only at hSw
            go_simp
            try (with_reducible rfl)
          try simp only [Act.put, List.setIfInBounds_toArray, List.set_cons_zero, List.set_cons_succ]
          refine take_on (i := 18) (by (simp only [List.getElem?_toArray, List.getElem?_cons_succ, List.getElem?_cons_zero]) <;> rfl) (by kernel_rfl) (by kernel_rfl) (by kernel_rfl) (by intro _ _ _ _ h; exact h) (by rfl) (by assumption) ?_
          apply Exists.intro
          refine ⟨?_, ?_⟩
          · intro W0 hSw
            try dsimp only at hSw
            go_simp
            try (with_reducible rfl)
          try simp only [Act.put, List.setIfInBounds_toArray, List.set_cons_zero, List.set_cons_succ]
          refine take_on (i := 19) (by (simp only [List.getElem?_toArray, List.getElem?_cons_succ, List.getElem?_cons_zero]) <;> rfl) (by kernel_rfl) (by kernel_rfl) (by kernel_rfl) (by intro _ _ _ _ h; exact h) (by rfl) (by assumption) ?_
          apply Exists.intro
          refine ⟨?_, ?_⟩
          · intro W0 hSw
            try dsimp only at hSw
            go_simp
            try (with_reducible rfl)
          try simp only [Act.put, List.setIfInBounds_toArray, List.set_cons_zero, List.set_cons_succ]
          refine take_on (i := 20) (by (simp only [List.getElem?_toArray, List.getElem?_cons_succ, List.getElem?_cons_zero]) <;> rfl) (by kernel_rfl) (by kernel_rfl) (by kernel_rfl) (by intro _ _ _ _ h; exact h) (by rfl) (by assumption) ?_
          apply Exists.intro
          refine ⟨?_, ?_⟩
          · intro W0 hSw
            try dsimp only at hSw
            go_simp
            try (with_reducible rfl)
          try simp only [Act.put, List.setIfInBounds_toArray, List.set_cons_zero, List.set_cons_succ]
          refine take_on (i := 21) (by (simp only [List.getElem?_toArray, List.getElem?_cons_succ, List.getElem?_cons_zero]) <;> rfl) (by kernel_rfl) (by kernel_rfl) (by kernel_rfl) (by intro _ _ _ _ h; exact h) (by rfl) (by assumption) ?_
          apply Exists.intro
          refine ⟨?_, ?_⟩
          · intro W0 hSw
            try dsimp only at hSw
            go_simp
            try (with_reducible rfl)
          try simp only [Act.put, List.setIfInBounds_toArray, List.set_cons_zero, List.set_cons_succ]
          refine take_on (i := 22) (by (simp only [List.getElem?_toArray, List.getElem?_cons_succ, List.getElem?_cons_zero]) <;> rfl) (by kernel_rfl) (by kernel_rfl) (by kernel_rfl) (by intro _ _ _ _ h; exact h) (by rfl) (by assumption) ?_
          apply Exists.intro
          refine ⟨?_, ?_⟩
          · intro W0 hSw
            try dsimp only at hSw
            go_simp
            try (with_reducible rfl)
          try simp only [Act.put, List.setIfInBounds_toArray, List.set_cons_zero, List.set_cons_succ]
          refine take_on (i := 23) (by (simp only [List.getElem?_toArray, List.getElem?_cons_succ, List.getElem?_cons_zero]) <;> rfl) (by kernel_rfl) (by kernel_rfl) (by kernel_rfl) (by intro _ _ _ _ h; exact h) (by rfl) (by assumption) ?_
          apply Exists.intro
          refine ⟨?_, ?_⟩
          · intro W0 hSw
            try dsimp only at hSw
            go_simp
            try (with_reducible rfl)
          try simp only [Act.put, List.setIfInBounds_toArray, List.set_cons_zero, List.set_cons_succ]
          refine take_on (i := 24) (by (simp only [List.getElem?_toArray, List.getElem?_cons_succ, List.getElem?_cons_zero]) <;> rfl) (by kernel_rfl) (by kernel_rfl) (by kernel_rfl) (by intro _ _ _ _ h; exact h) (by rfl) (by assumption) ?_
          apply Exists.intro
          refine ⟨?_, ?_⟩
          · intro W0 hSw
            try dsimp only at hSw
            go_simp
            try (with_reducible rfl)
          try simp only [Act.put, List.setIfInBounds_toArray, List.set_cons_zero, List.set_cons_succ]
          refine take_on (i := 25) (by (simp only [List.getElem?_toArray, List.getElem?_cons_succ, List.getElem?_cons_zero]) <;> rfl) (by kernel_rfl) (by kernel_rfl) (by kernel_rfl) (by intro _ _ _ _ h; exact h) (by rfl) (by assumption) ?_
          apply Exists.intro
          refine ⟨?_, ?_⟩
          · intro W0 hSw
            try dsimp only at hSw
            go_simp
            try (with_reducible rfl)
          try simp only [Act.put, List.setIfInBounds_toArray, List.set_cons_zero, List.set_cons_succ]
          refine take_on (i := 26) (by (simp only [List.getElem?_toArray, List.getElem?_cons_succ, List.getElem?_cons_zero]) <;> rfl) (by kernel_rfl) (by kernel_rfl) (by kernel_rfl) (by intro _ _ _ _ h; exact h) (by rfl) (by assumption) ?_
          apply Exists.intro
          refine ⟨?_, ?_⟩
          · intro W0 hSw
            try dsimp only at hSw
            go_simp
            try (with_reducible rfl)
          try simp only [Act.put, List.setIfInBounds_toArray, List.set_cons_zero, List.set_cons_succ]
          refine take_on (i := 27) (by (simp only [List.getElem?_toArray, List.getElem?_cons_succ, List.getElem?_cons_zero]) <;> rfl) (by kernel_rfl) (by kernel_rfl) (by kernel_rfl) (by intro _ _ _ _ h; exact h) (by rfl) (by assumption) ?_
          apply Exists.intro
          refine ⟨?_, ?_⟩
          · intro W0 hSw
            try dsimp only at hSw
            go_simp
            try (with_reducible rfl)
          try simp only [Act.put, List.setIfInBounds_toArray, List.set_cons_zero, List.set_cons_succ]
          refine take_on (i := 28) (by (simp only [List.getElem?_toArray, List.getElem?_cons_succ, List.getElem?_cons_zero]) <;> rfl) (by kernel_rfl) (by kernel_rfl) (by kernel_rfl) (by intro _ _ _ _ h; exact h) (by rfl) (by assumption) ?_
          apply Exists.intro
          refine ⟨?_, ?_⟩
          · intro W0 hSw
            try dsimp only at hSw
            go_simp
            try (with_reducible rfl)
          try simp only [Act.put, List.setIfInBounds_toArray, List.set_cons_zero, List.set_cons_succ]
          refine take_on (i := 29) (by (simp only [List.getElem?_toArray, List.getElem?_cons_succ, List.getElem?_cons_zero]) <;> rfl) (by kernel_rfl) (by kernel_rfl) (by kernel_rfl) (by intro _ _ _ _ h; exact h) (by rfl) (by assumption) ?_
          apply Exists.intro
          refine ⟨?_, ?_⟩
          · intro W0 hSw
            try dsimp only at hSw
            go_simp
            try (with_reducible rfl)
          try simp only [Act.put, List.setIfInBounds_toArray, List.set_cons_zero, List.set_cons_succ]
          refine take_on (i := 30) (by (simp only [List.getElem?_toArray, List.getElem?_cons_succ, List.getElem?_cons_zero]) <;> rfl) (by kernel_rfl) (by kernel_rfl) (by kernel_rfl) (by intro _ _ _ _ h; exact h) (by rfl) (by assumption) ?_
          apply Exists.intro
          refine ⟨?_, ?_⟩
          · intro W0 hSw
            try dsimp only at hSw
            go_simp
            try (with_reducible rfl)
          try simp only [Act.put, List.setIfInBounds_toArray, List.set_cons_zero, List.set_cons_succ]
          refine take_on (i := 31) (by (simp only [List.getElem?_toArray, List.getElem?_cons_succ, List.getElem?_cons_zero]) <;> rfl) (by kernel_rfl) (by kernel_rfl) (by kernel_rfl) (by intro _ _ _ _ h; exact h) (by rfl) (by assumption) ?_
          apply Exists.intro
          refine ⟨?_, ?_⟩
          · intro W0 hSw
            try dsimp only at hSw
            go_simp
            try (with_reducible rfl)
          try simp only [Act.put, List.setIfInBounds_toArray, List.set_cons_zero, List.set_cons_succ]
          refine take_on (i := 32) (by (simp only [List.getElem?_toArray, List.getElem?_cons_succ, List.getElem?_cons_zero]) <;> rfl) (by kernel_rfl) (by kernel_rfl) (by kernel_rfl) (by intro _ _ _ _ h; exact h) (by rfl) (by assumption) ?_
          apply Exists.intro
          refine ⟨?_, ?_⟩
          · intro W0 hSw
            try dsimp only at hSw
            go_simp
            try (with_reducible rfl)
          try simp only [Act.put, List.setIfInBounds_toArray, List.set_cons_zero, List.set_cons_succ]
          refine take_on (i := 33) (by (simp only [List.getElem?_toArray, List.getElem?_cons_succ, List.getElem?_cons_zero]) <;> rfl) (by kernel_rfl) (by kernel_rfl) (by kernel_rfl) (by intro _ _ _ _ h; exact h) (by rfl) (by assumption) ?_
          apply Exists.intro
          refine ⟨?_, ?_⟩
          · intro W0 hSw
            try dsimp only at hSw
            go_simp
            try (with_reducible rfl)
          try simp only [Act.put, List.setIfInBounds_toArray, List.set_cons_zero, List.set_cons_succ]
          refine take_on (i := 34) (by (simp only [List.getElem?_toArray, List.getElem?_cons_succ, List.getElem?_cons_zero]) <;> rfl) (by kernel_rfl) (by kernel_rfl) (by kernel_rfl) (by intro _ _ _ _ h; exact h) (by rfl) (by assumption) ?_
          apply Exists.intro
          refine ⟨?_, ?_⟩
          · intro W0 hSw
            try dsimp only at hSw
            go_simp
            try (with_reducible rfl)
          try simp only [Act.put, List.setIfInBounds_toArray, List.set_cons_zero, List.set_cons_succ]
          refine take_on (i := 35) (by (simp only [List.getElem?_toArray, List.getElem?_cons_succ, List.getElem?_cons_zero]) <;> rfl) (by kernel_rfl) (by kernel_rfl) (by kernel_rfl) (by intro _ _ _ _ h; exact h) (by rfl) (by assumption) ?_
          apply Exists.intro
          refine ⟨?_, ?_⟩
          · intro W0 hSw
            try dsimp only at hSw
            go_simp
            try (with_reducible rfl)
          try simp only [Act.put, List.setIfInBounds_toArray, List.set_cons_zero, List.set_cons_succ]
          refine take_on (i := 36) (by (simp only [List.getElem?_toArray, List.getElem?_cons_succ, List.getElem?_cons_zero]) <;> rfl) (by kernel_rfl) (by kernel_rfl) (by kernel_rfl) (by intro _ _ _ _ h; exact h) (by rfl) (by assumption) ?_
          apply Exists.intro
          refine ⟨?_, ?_⟩
          · intro W0 hSw
            try dsimp only at hSw
            go_simp
            try (with_reducible rfl)
          try simp only [Act.put, List.setIfInBounds_toArray, List.set_cons_zero, List.set_cons_succ]
          refine take_on (i := 37) (by (simp only [List.getElem?_toArray, List.getElem?_cons_succ, List.getElem?_cons_zero]) <;> rfl) (by kernel_rfl) (by kernel_rfl) (by kernel_rfl) (by intro _ _ _ _ h; exact h) (by rfl) (by assumption) ?_
          apply Exists.intro
          refine ⟨?_, ?_⟩
          · intro W0 hSw
            try dsimp only at hSw
            go_simp
            try (with_reducible rfl)
          try simp only [Act.put, List.setIfInBounds_toArray, List.set_cons_zero, List.set_cons_succ]
          refine take_off (i := 38) (by (simp only [List.getElem?_toArray, List.getElem?_cons_succ, List.getElem?_cons_zero]) <;> rfl) (by kernel_rfl) (by kernel_rfl) (by kernel_rfl) (by intro _ _ _ _ h; exact h) (by rfl) (by assumption) ?_
          try simp only [Act.put, List.setIfInBounds_toArray, List.set_cons_zero, List.set_cons_succ]
          refine take_off (i := 39) (by (simp only [List.getElem?_toArray, List.getElem?_cons_succ, List.getElem?_cons_zero]) <;> rfl) (by kernel_rfl) (by kernel_rfl) (by kernel_rfl) (by intro _ _ _ _ h; exact h) (by rfl) (by assumption) ?_
          try simp only [Act.put, List.setIfInBounds_toArray, List.set_cons_zero, List.set_cons_succ]
          refine take_off (i := 40) (by (simp only [List.getElem?_toArray, List.getElem?_cons_succ, List.getElem?_cons_zero]) <;> rfl) (by kernel_rfl) (by kernel_rfl) (by kernel_rfl) (by intro _ _ _ _ h; exact h) (by rfl) (by assumption) ?_
          try simp only [Act.put, List.setIfInBounds_toArray, List.set_cons_zero, List.set_cons_succ]
          refine take_off (i := 41) (by (simp only [List.getElem?_toArray, List.getElem?_cons_succ, List.getElem?_cons_zero]) <;> rfl) (by kernel_rfl) (by kernel_rfl) (by kernel_rfl) (by intro _ _ _ _ h; exact h) (by rfl) (by assumption) ?_
          try simp only [Act.put, List.setIfInBounds_toArray, List.set_cons_zero, List.set_cons_succ]
          refine take_off (i := 42) (by (simp only [List.getElem?_toArray, List.getElem?_cons_succ, List.getElem?_cons_zero]) <;> rfl) (by kernel_rfl) (by kernel_rfl) (by kernel_rfl) (by intro _ _ _ _ h; exact h) (by rfl) (by assumption) ?_
          try simp only [Act.put, List.setIfInBounds_toArray, List.set_cons_zero, List.set_cons_succ]
          refine take_off (i := 43) (by (simp only [List.getElem?_toArray, List.getElem?_cons_succ, List.getElem?_cons_zero]) <;> rfl) (by kernel_rfl) (by kernel_rfl) (by kernel_rfl) (by intro _ _ _ _ h; exact h) (by rfl) (by assumption) ?_
          try simp only [Act.put, List.setIfInBounds_toArray, List.set_cons_zero, List.set_cons_succ]
          refine take_off (i := 44) (by (simp only [List.getElem?_toArray, List.getElem?_cons_succ, List.getElem?_cons_zero]) <;> rfl) (by kernel_rfl) (by kernel_rfl) (by kernel_rfl) (by intro _ _ _ _ h; exact h) (by rfl) (by assumption) ?_
          try simp only [Act.put, List.setIfInBounds_toArray, List.set_cons_zero, List.set_cons_succ]
          refine take_off (i := 45) (by (simp only [List.getElem?_toArray, List.getElem?_cons_succ, List.getElem?_cons_zero]) <;> rfl) (by kernel_rfl) (by kernel_rfl) (by kernel_rfl) (by intro _ _ _ _ h; exact h) (by rfl) (by assumption) ?_
          try simp only [Act.put, List.setIfInBounds_toArray, List.set_cons_zero, List.set_cons_succ]
          refine take_off (i := 46) (by (simp only [List.getElem?_toArray, List.getElem?_cons_succ, List.getElem?_cons_zero]) <;> rfl) (by kernel_rfl) (by kernel_rfl) (by kernel_rfl) (by intro _ _ _ _ h; exact h) (by rfl) (by assumption) ?_
          try simp only [Act.put, List.setIfInBounds_toArray, List.set_cons_zero, List.set_cons_succ]
          refine take_on (i := 47) (by (simp only [List.getElem?_toArray, List.getElem?_cons_succ, List.getElem?_cons_zero]) <;> rfl) (by kernel_rfl) (by kernel_rfl) (by kernel_rfl) (by intro _ _ _ _ h; exact h) (by rfl) (by assumption) ?_
          apply Exists.intro
          refine ⟨?_, ?_⟩
          · intro W0 hSw
            try dsimp only at hSw
            go_simp
            try (with_reducible rfl)
          try simp only [Act.put, List.setIfInBounds_toArray, List.set_cons_zero, List.set_cons_succ]
          refine take_on (i := 48) (by (simp only [List.getElem?_toArray, List.getElem?_cons_succ, List.getElem?_cons_zero]) <;> rfl) (by kernel_rfl) (by kernel_rfl) (by kernel_rfl) (by intro _ _ _ _ h; exact h) (by rfl) (by assumption) ?_
          apply Exists.intro
          refine ⟨?_, ?_⟩
          · intro W0 hSw
            try dsimp only at hSw
            go_simp
            try (with_reducible rfl)
          try simp only [Act.put, List.setIfInBounds_toArray, List.set_cons_zero, List.set_cons_succ]
          refine take_on (i := 49) (by (simp only [List.getElem?_toArray, List.getElem?_cons_succ, List.getElem?_cons_zero]) <;> rfl) (by kernel_rfl) (by kernel_rfl) (by kernel_rfl) (by intro _ _ _ _ h; exact h) (by rfl) (by assumption) ?_
          apply Exists.intro
          refine ⟨?_, ?_⟩
          · intro W0 hSw
            try dsimp only at hSw
            go_simp
            try (with_reducible rfl)
          try simp only [Act.put, List.setIfInBounds_toArray, List.set_cons_zero, List.set_cons_succ]
          refine take_on (i := 50) (by (simp only [List.getElem?_toArray, List.getElem?_cons_succ, List.getElem?_cons_zero]) <;> rfl) (by kernel_rfl) (by kernel_rfl) (by kernel_rfl) (by intro _ _ _ _ h; exact h) (by rfl) (by assumption) ?_
          apply Exists.intro
          refine ⟨?_, ?_⟩
          · intro W0 hSw
            try dsimp only at hSw
            go_simp
            try (with_reducible rfl)
          try simp only [Act.put, List.setIfInBounds_toArray, List.set_cons_zero, List.set_cons_succ]
          refine wpAnyH_done (by kernel_rfl) ?_ _
          have E6 := E5.drop 2
          simp at E6
          go_wp2
          go_roundw
          case rel => exact ⟨q + 1, by omega, by go_num, by rw [HS.out], E6⟩
          case measure => simp [intOf]; omega
        · have t3 : decide (x.a < y9.a) = false := by simp; omega
          have t4 : (x.a == y9.a) = true := by simp; omega
          have t5 : decide (x.b ≤ y9.b) = false := by simp; omega
          clear hm0 ho ho2
          go_upto_region 9 with fail
          replace E := E.alloc (.cells #[.int .i64 x.a, .int .i64 x.b, .int .i64 x.c] 81)
          simp at E
          obtain ⟨W, hW⟩ : ∃ W : World, W = wr.alloc (.cells #[.int .i64 x.a, .int .i64 x.b, .int .i64 x.c] 81) := ⟨_, rfl⟩
          rw [← hW] at E
          rw [← hW]
          clear hW
          have q0 := E.cell 2 rfl 0 rfl
          have q1 := E.cell 2 rfl 1 rfl
          have q2 := E.cell 2 rfl 2 rfl
          generalize wr.heap.size = bw at *
          have e0 := (KD _ _ E).1
          have e1 := (KD _ _ E).2
          go_upto_region 10 with fail
          refine wp_region_held_drew (S := (fun V => (V.cell? ⟨bw, 0, none⟩ = some (.int .i64 x.a) ∧ V.cell? ⟨bw, 1, none⟩ = some (.int .i64 x.b) ∧ V.cell? ⟨bw, 2, none⟩ = some (.int .i64 x.c)) ∧ V.cell? ⟨bx, ox + m * 3, none⟩ = some (.int .i64 y9.a) ∧ V.cell? ⟨bx, ox + m * 3 + 1, none⟩ = some (.int .i64 y9.b))) (by kernel_rfl) ?_ (fun hHeld => ?_)
          · (try dsimp only)
            first | (go_keep)
          refine take_on (i := 0) (by (simp only [List.getElem?_toArray, List.getElem?_cons_succ, List.getElem?_cons_zero]) <;> rfl) (by kernel_rfl) (by kernel_rfl) (by kernel_rfl) (by intro _ _ _ _ h; exact h) (by rfl) (by assumption) ?_
          apply Exists.intro
          refine ⟨?_, ?_⟩
          · intro W0 hSw
            try dsimp only at hSw
            go_simp
            try (with_reducible rfl)
          try simp only [Act.put, List.setIfInBounds_toArray, List.set_cons_zero, List.set_cons_succ]
          refine take_on (i := 1) (by (simp only [List.getElem?_toArray, List.getElem?_cons_succ, List.getElem?_cons_zero]) <;> rfl) (by kernel_rfl) (by kernel_rfl) (by kernel_rfl) (by intro _ _ _ _ h; exact h) (by rfl) (by assumption) ?_
          apply Exists.intro
          refine ⟨?_, ?_⟩
          · intro W0 hSw
            try dsimp only at hSw
            go_simp
            try (with_reducible rfl)
          try simp only [Act.put, List.setIfInBounds_toArray, List.set_cons_zero, List.set_cons_succ]
          refine take_on (i := 2) (by (simp only [List.getElem?_toArray, List.getElem?_cons_succ, List.getElem?_cons_zero]) <;> rfl) (by kernel_rfl) (by kernel_rfl) (by kernel_rfl) (by intro _ _ _ _ h; exact h) (by rfl) (by assumption) ?_
          apply Exists.intro
          refine ⟨?_, ?_⟩
          · intro W0 hSw
            try dsimp only at hSw
            go_simp
            try (with_reducible rfl)
          try simp only [Act.put, List.setIfInBounds_toArray, List.set_cons_zero, List.set_cons_succ]
          refine take_on (i := 3) (by (simp only [List.getElem?_toArray, List.getElem?_cons_succ, List.getElem?_cons_zero]) <;> rfl) (by kernel_rfl) (by kernel_rfl) (by kernel_rfl) (by intro _ _ _ _ h; exact h) (by rfl) (by assumption) ?_
          apply Exists.intro
          refine ⟨?_, ?_⟩
          · intro W0 hSw
            try dsimp only at hSw
            go_simp
            try (with_reducible rfl)
          try simp only [Act.put, List.setIfInBounds_toArray, List.set_cons_zero, List.set_cons_succ]
          refine take_on (i := 4) (by (simp only [List.getElem?_toArray, List.getElem?_cons_succ, List.getElem?_cons_zero]) <;> rfl) (by kernel_rfl) (by kernel_rfl) (by kernel_rfl) (by intro _ _ _ _ h; exact h) (by rfl) (by assumption) ?_
          apply Exists.intro
          refine ⟨?_, ?_⟩
          · intro W0 hSw
            try dsimp only at hSw
            go_simp
            try (with_reducible rfl)
          try simp only [Act.put, List.setIfInBounds_toArray, List.set_cons_zero, List.set_cons_succ]
          refine take_on (i := 5) (by (simp only [List.getElem?_toArray, List.getElem?_cons_succ, List.getElem?_cons_zero]) <;> rfl) (by kernel_rfl) (by kernel_rfl) (by kernel_rfl) (by intro _ _ _ _ h; exact h) (by rfl) (by assumption) ?_
          apply Exists.intro
          refine ⟨?_, ?_⟩
          · intro W0 hSw
            try dsimp only at hSw
            go_simp
            try (with_reducible rfl)
          try simp only [Act.put, List.setIfInBounds_toArray, List.set_cons_zero, List.set_cons_succ]
          refine take_on (i := 6) (by (simp only [List.getElem?_toArray, List.getElem?_cons_succ, List.getElem?_cons_zero]) <;> rfl) (by kernel_rfl) (by kernel_rfl) (by kernel_rfl) (by intro _ _ _ _ h; exact h) (by rfl) (by assumption) ?_
          apply Exists.intro
          refine ⟨?_, ?_⟩
          · intro W0 hSw
            try dsimp only at hSw
            go_simp
            try (with_reducible rfl)
          try simp only [Act.put, List.setIfInBounds_toArray, List.set_cons_zero, List.set_cons_succ]
          refine take_on (i := 7) (by (simp only [List.getElem?_toArray, List.getElem?_cons_succ, List.getElem?_cons_zero]) <;> rfl) (by kernel_rfl) (by kernel_rfl) (by kernel_rfl) (by intro _ _ _ _ h; exact h) (by rfl) (by assumption) ?_
          apply Exists.intro
          refine ⟨?_, ?_⟩
          · intro W0 hSw
            try dsimp only at hSw
            go_simp
            try (with_reducible rfl)
          try simp only [Act.put, List.setIfInBounds_toArray, List.set_cons_zero, List.set_cons_succ]
          refine take_on (i := 8) (by (simp only [List.getElem?_toArray, List.getElem?_cons_succ, List.getElem?_cons_zero]) <;> rfl) (by kernel_rfl) (by kernel_rfl) (by kernel_rfl) (by intro _ _ _ _ h; exact h) (by rfl) (by assumption) ?_
          apply Exists.intro
          refine ⟨?_, ?_⟩
          · intro W0 hSw
            try dsimp only at hSw
            go_simp
            try (with_reducible rfl)
          try simp only [Act.put, List.setIfInBounds_toArray, List.set_cons_zero, List.set_cons_succ]
          refine take_on (i := 10) (by (simp only [List.getElem?_toArray, List.getElem?_cons_succ, List.getElem?_cons_zero]) <;> rfl) (by kernel_rfl) (by kernel_rfl) (by kernel_rfl) (by intro _ _ _ _ h; exact h) (by rfl) (by assumption) ?_
          apply Exists.intro
          refine ⟨?_, ?_⟩
          · intro W0 hSw
            try dsimp only at hSw
            go_simp
            try (with_reducible rfl)
          try simp only [Act.put, List.setIfInBounds_toArray, List.set_cons_zero, List.set_cons_succ]
          refine take_on (i := 11) (by (simp only [List.getElem?_toArray, List.getElem?_cons_succ, List.getElem?_cons_zero]) <;> rfl) (by kernel_rfl) (by kernel_rfl) (by kernel_rfl) (by intro _ _ _ _ h; exact h) (by rfl) (by assumption) ?_
          apply Exists.intro
          refine ⟨?_, ?_⟩
          · intro W0 hSw
            try dsimp only at hSw
            go_simp
            try (with_reducible rfl)
          try simp only [Act.put, List.setIfInBounds_toArray, List.set_cons_zero, List.set_cons_succ]
          refine wpAnyH_ready (rs := [9]) (by kernel_rfl) (by simp) ?_
          refine AllReadyH.cons (by (simp only [List.getElem?_toArray, List.getElem?_cons_succ, List.getElem?_cons_zero]) <;> rfl) (fun K hK => ?_) AllReadyH.nil
          go_simp
          refine (GG _ _ (by repeat (first | (with_reducible exact E) | (with_reducible apply Env.drew) | (with_reducible apply Env.drewN) | (with_reducible apply Env.alloc'))) rfl).mono ?_
          rintro e w5 ⟨rfl, E5⟩
          have hkeep := And.intro (KC _ _ E5) (KD _ _ E5)
          go_wp2_with fail
          refine hK.out _ _ ?_ (fun hHeld => ?_)
          · (try dsimp only)
            first | (exact hkeep) | (go_keep)
          clear hK K
          try simp only [Act.put, List.setIfInBounds_toArray, List.set_cons_zero, List.set_cons_succ]
          refine take_on (i := 12) (by (simp only [List.getElem?_toArray, List.getElem?_cons_succ, List.getElem?_cons_zero]) <;> rfl) (by kernel_rfl) (by kernel_rfl) (by kernel_rfl) (by intro _ _ _ _ h; exact h) (by rfl) (by assumption) ?_
          apply Exists.intro
          refine ⟨?_, ?_⟩
          · intro W0 hSw
            try dsimp only at hSw
            go_simp
            try (with_reducible rfl)
          try simp only [Act.put, List.setIfInBounds_toArray, List.set_cons_zero, List.set_cons_succ]
          refine take_on (i := 13) (by (simp only [List.getElem?_toArray, List.getElem?_cons_succ, List.getElem?_cons_zero]) <;> rfl) (by kernel_rfl) (by kernel_rfl) (by kernel_rfl) (by intro _ _ _ _ h; exact h) (by rfl) (by assumption) ?_
          apply Exists.intro
          refine ⟨?_, ?_⟩
          · intro W0 hSw
            try dsimp only at hSw
            go_simp
            try (with_reducible rfl)
          try simp only [Act.put, List.setIfInBounds_toArray, List.set_cons_zero, List.set_cons_succ]
          refine take_on (i := 14) (by (simp only [List.getElem?_toArray, List.getElem?_cons_succ, List.getElem?_cons_zero]) <;> rfl) (by kernel_rfl) (by kernel_rfl) (by kernel_rfl) (by intro _ _ _ _ h; exact h) (by rfl) (by assumption) ?_
          apply Exists.intro
          refine ⟨?_, ?_⟩
          · intro W0 hSw
            try dsimp only at hSw
            go_simp
            try (with_reducible rfl)
          try simp only [Act.put, List.setIfInBounds_toArray, List.set_cons_zero, List.set_cons_succ]
          refine take_on (i := 15) (by (simp only [List.getElem?_toArray, List.getElem?_cons_succ, List.getElem?_cons_zero]) <;> rfl) (by kernel_rfl) (by kernel_rfl) (by kernel_rfl) (by intro _ _ _ _ h; exact h) (by rfl) (by assumption) ?_
          apply Exists.intro
          refine ⟨?_, ?_⟩
          · intro W0 hSw
            try dsimp only at hSw
            go_simp
            try (with_reducible rfl)
          try simp only [Act.put, List.setIfInBounds_toArray, List.set_cons_zero, List.set_cons_succ]
          refine take_on (i := 16) (by (simp only [List.getElem?_toArray, List.getElem?_cons_succ, List.getElem?_cons_zero]) <;> rfl) (by kernel_rfl) (by kernel_rfl) (by kernel_rfl) (by intro _ _ _ _ h; exact h) (by rfl) (by assumption) ?_
          apply Exists.intro
          refine ⟨?_, ?_⟩
          · intro W0 hSw
            try dsimp only at hSw
            go_simp
            try (with_reducible rfl)
          try simp only [Act.put, List.setIfInBounds_toArray, List.set_cons_zero, List.set_cons_succ]
          refine take_on (i := 17) (by (simp only [List.getElem?_toArray, List.getElem?_cons_succ, List.getElem?_cons_zero]) <;> rfl) (by kernel_rfl) (by kernel_rfl) (by kernel_rfl) (by intro _ _ _ _ h; exact h) (by rfl) (by assumption) ?_
          apply Exists.intro
          refine ⟨?_, ?_⟩
          · intro W0 hSw
            try dsimp only at hSw
            go_simp
            try (with_reducible rfl)
          try simp only [Act.put, List.setIfInBounds_toArray, List.set_cons_zero, List.set_cons_succ]
          refine take_on (i := 18) (by (simp only [List.getElem?_toArray, List.getElem?_cons_succ, List.getElem?_cons_zero]) <;> rfl) (by kernel_rfl) (by kernel_rfl) (by kernel_rfl) (by intro _ _ _ _ h; exact h) (by rfl) (by assumption) ?_
          apply Exists.intro
          refine ⟨?_, ?_⟩
          · intro W0 hSw
            try dsimp only at hSw
            go_simp
            try (with_reducible rfl)
          try simp only [Act.put, List.setIfInBounds_toArray, List.set_cons_zero, List.set_cons_succ]
          refine take_on (i := 19) (by (simp only [List.getElem?_toArray, List.getElem?_cons_succ, List.getElem?_cons_zero]) <;> rfl) (by kernel_rfl) (by kernel_rfl) (by kernel_rfl) (by intro _ _ _ _ h; exact h) (by rfl) (by assumption) ?_
          apply Exists.intro
          refine ⟨?_, ?_⟩
          · intro W0 hSw
            try dsimp only at hSw
            go_simp
            try (with_reducible rfl)
          try simp only [Act.put, List.setIfInBounds_toArray, List.set_cons_zero, List.set_cons_succ]
          refine take_on (i := 20) (by (simp only [List.getElem?_toArray, List.getElem?_cons_succ, List.getElem?_cons_zero]) <;> rfl) (by kernel_rfl) (by kernel_rfl) (by kernel_rfl) (by intro _ _ _ _ h; exact h) (by rfl) (by assumption) ?_
          apply Exists.intro
          refine ⟨?_, ?_⟩
          · intro W0 hSw
            try dsimp only at hSw
            go_simp
            try (with_reducible rfl)
          try simp only [Act.put, List.setIfInBounds_toArray, List.set_cons_zero, List.set_cons_succ]
          refine take_on (i := 21) (by (simp only [List.getElem?_toArray, List.getElem?_cons_succ, List.getElem?_cons_zero]) <;> rfl) (by kernel_rfl) (by kernel_rfl) (by kernel_rfl) (by intro _ _ _ _ h; exact h) (by rfl) (by assumption) ?_
          apply Exists.intro
          refine ⟨?_, ?_⟩
          · intro W0 hSw
            try dsimp only at hSw
            go_simp
            try (with_reducible rfl)
          try simp only [Act.put, List.setIfInBounds_toArray, List.set_cons_zero, List.set_cons_succ]
          refine take_on (i := 22) (by (simp only [List.getElem?_toArray, List.getElem?_cons_succ, List.getElem?_cons_zero]) <;> rfl) (by kernel_rfl) (by kernel_rfl) (by kernel_rfl) (by intro _ _ _ _ h; exact h) (by rfl) (by assumption) ?_
          apply Exists.intro
          refine ⟨?_, ?_⟩
          · intro W0 hSw
            try dsimp only at hSw
            go_simp
            try (with_reducible rfl)
          try simp only [Act.put, List.setIfInBounds_toArray, List.set_cons_zero, List.set_cons_succ]
          refine take_on (i := 23) (by (simp only [List.getElem?_toArray, List.getElem?_cons_succ, List.getElem?_cons_zero]) <;> rfl) (by kernel_rfl) (by kernel_rfl) (by kernel_rfl) (by intro _ _ _ _ h; exact h) (by rfl) (by assumption) ?_
          apply Exists.intro
          refine ⟨?_, ?_⟩
          · intro W0 hSw
            try dsimp only at hSw
            go_simp
            try (with_reducible rfl)
          try simp only [Act.put, List.setIfInBounds_toArray, List.set_cons_zero, List.set_cons_succ]
          refine take_on (i := 24) (by (simp only [List.getElem?_toArray, List.getElem?_cons_succ, List.getElem?_cons_zero]) <;> rfl) (by kernel_rfl) (by kernel_rfl) (by kernel_rfl) (by intro _ _ _ _ h; exact h) (by rfl) (by assumption) ?_
          apply Exists.intro
          refine ⟨?_, ?_⟩
          · intro W0 hSw
            try dsimp only at hSw
            go_simp
            try (with_reducible rfl)
          try simp only [Act.put, List.setIfInBounds_toArray, List.set_cons_zero, List.set_cons_succ]
          refine take_on (i := 25) (by (simp only [List.getElem?_toArray, List.getElem?_cons_succ, List.getElem?_cons_zero]) <;> rfl) (by kernel_rfl) (by kernel_rfl) (by kernel_rfl) (by intro _ _ _ _ h; exact h) (by rfl) (by assumption) ?_
          apply Exists.intro
          refine ⟨?_, ?_⟩
          · intro W0 hSw
            try dsimp only at hSw
            go_simp
            try (with_reducible rfl)
          try simp only [Act.put, List.setIfInBounds_toArray, List.set_cons_zero, List.set_cons_succ]
          refine take_on (i := 26) (by (simp only [List.getElem?_toArray, List.getElem?_cons_succ, List.getElem?_cons_zero]) <;> rfl) (by kernel_rfl) (by kernel_rfl) (by kernel_rfl) (by intro _ _ _ _ h; exact h) (by rfl) (by assumption) ?_
          apply Exists.intro
          refine ⟨?_, ?_⟩
          · intro W0 hSw
            try dsimp only at hSw
            go_simp
            try (with_reducible rfl)
          try simp only [Act.put, List.setIfInBounds_toArray, List.set_cons_zero, List.set_cons_succ]
          refine take_on (i := 27) (by (simp only [List.getElem?_toArray, List.getElem?_cons_succ, List.getElem?_cons_zero]) <;> rfl) (by kernel_rfl) (by kernel_rfl) (by kernel_rfl) (by intro _ _ _ _ h; exact h) (by rfl) (by assumption) ?_
          apply Exists.intro
          refine ⟨?_, ?_⟩
          · intro W0 hSw
            try dsimp only at hSw
            go_simp
            try (with_reducible rfl)
          try simp only [Act.put, List.setIfInBounds_toArray, List.set_cons_zero, List.set_cons_succ]
          refine take_on (i := 28) (by (simp only [List.getElem?_toArray, List.getElem?_cons_succ, List.getElem?_cons_zero]) <;> rfl) (by kernel_rfl) (by kernel_rfl) (by kernel_rfl) (by intro _ _ _ _ h; exact h) (by rfl) (by assumption) ?_
          apply Exists.intro
          refine ⟨?_, ?_⟩
          · intro W0 hSw
            try dsimp only at hSw
            go_simp
            try (with_reducible rfl)
          try simp only [Act.put, List.setIfInBounds_toArray, List.set_cons_zero, List.set_cons_succ]
          refine take_on (i := 29) (by (simp only [List.getElem?_toArray, List.getElem?_cons_succ, List.getElem?_cons_zero]) <;> rfl) (by kernel_rfl) (by kernel_rfl) (by kernel_rfl) (by intro _ _ _ _ h; exact h) (by rfl) (by assumption) ?_
          apply Exists.intro
          refine ⟨?_, ?_⟩
          · intro W0 hSw
            try dsimp only at hSw
            go_simp
            try (with_reducible rfl)
          try simp only [Act.put, List.setIfInBounds_toArray, List.set_cons_zero, List.set_cons_succ]
          refine take_on (i := 30) (by (simp only [List.getElem?_toArray, List.getElem?_cons_succ, List.getElem?_cons_zero]) <;> rfl) (by kernel_rfl) (by kernel_rfl) (by kernel_rfl) (by intro _ _ _ _ h; exact h) (by rfl) (by assumption) ?_
          apply Exists.intro
          refine ⟨?_, ?_⟩
          · intro W0 hSw
            try dsimp only at hSw
            go_simp
            try (with_reducible rfl)
          try simp only [Act.put, List.setIfInBounds_toArray, List.set_cons_zero, List.set_cons_succ]
          refine take_on (i := 31) (by (simp only [List.getElem?_toArray, List.getElem?_cons_succ, List.getElem?_cons_zero]) <;> rfl) (by kernel_rfl) (by kernel_rfl) (by kernel_rfl) (by intro _ _ _ _ h; exact h) (by rfl) (by assumption) ?_
          apply Exists.intro
          refine ⟨?_, ?_⟩
          · intro W0 hSw
            try dsimp only at hSw
            go_simp
            try (with_reducible rfl)
          try simp only [Act.put, List.setIfInBounds_toArray, List.set_cons_zero, List.set_cons_succ]
          refine take_on (i := 32) (by (simp only [List.getElem?_toArray, List.getElem?_cons_succ, List.getElem?_cons_zero]) <;> rfl) (by kernel_rfl) (by kernel_rfl) (by kernel_rfl) (by intro _ _ _ _ h; exact h) (by rfl) (by assumption) ?_
          apply Exists.intro
          refine ⟨?_, ?_⟩
          · intro W0 hSw
            try dsimp only at hSw
            go_simp
            try (with_reducible rfl)
          try simp only [Act.put, List.setIfInBounds_toArray, List.set_cons_zero, List.set_cons_succ]
          refine take_on (i := 33) (by (simp only [List.getElem?_toArray, List.getElem?_cons_succ, List.getElem?_cons_zero]) <;> rfl) (by kernel_rfl) (by kernel_rfl) (by kernel_rfl) (by intro _ _ _ _ h; exact h) (by rfl) (by assumption) ?_
          apply Exists.intro
          refine ⟨?_, ?_⟩
          · intro W0 hSw
            try dsimp only at hSw
            go_simp
            try (with_reducible rfl)
          try simp only [Act.put, List.setIfInBounds_toArray, List.set_cons_zero, List.set_cons_succ]
          refine take_on (i := 34) (by (simp only [List.getElem?_toArray, List.getElem?_cons_succ, List.getElem?_cons_zero]) <;> rfl) (by kernel_rfl) (by kernel_rfl) (by kernel_rfl) (by intro _ _ _ _ h; exact h) (by rfl) (by assumption) ?_
          apply Exists.intro
          refine ⟨?_, ?_⟩
          · intro W0 hSw
            try dsimp only at hSw
            go_simp
            try (with_reducible rfl)
          try simp only [Act.put, List.setIfInBounds_toArray, List.set_cons_zero, List.set_cons_succ]
          refine take_on (i := 35) (by (simp only [List.getElem?_toArray, List.getElem?_cons_succ, List.getElem?_cons_zero]) <;> rfl) (by kernel_rfl) (by kernel_rfl) (by kernel_rfl) (by intro _ _ _ _ h; exact h) (by rfl) (by assumption) ?_
          apply Exists.intro
          refine ⟨?_, ?_⟩
          · intro W0 hSw
            try dsimp only at hSw
            go_simp
            try (with_reducible rfl)
          try simp only [Act.put, List.setIfInBounds_toArray, List.set_cons_zero, List.set_cons_succ]
          refine take_on (i := 36) (by (simp only [List.getElem?_toArray, List.getElem?_cons_succ, List.getElem?_cons_zero]) <;> rfl) (by kernel_rfl) (by kernel_rfl) (by kernel_rfl) (by intro _ _ _ _ h; exact h) (by rfl) (by assumption) ?_
          apply Exists.intro
          refine ⟨?_, ?_⟩
          · intro W0 hSw
            try dsimp only at hSw
            go_simp
            try (with_reducible rfl)
          try simp only [Act.put, List.setIfInBounds_toArray, List.set_cons_zero, List.set_cons_succ]
          refine take_on (i := 37) (by (simp only [List.getElem?_toArray, List.getElem?_cons_succ, List.getElem?_cons_zero]) <;> rfl) (by kernel_rfl) (by kernel_rfl) (by kernel_rfl) (by intro _ _ _ _ h; exact h) (by rfl) (by assumption) ?_
          apply Exists.intro
          refine ⟨?_, ?_⟩
          · intro W0 hSw
            try dsimp only at hSw
            go_simp
            try (with_reducible rfl)
          try simp only [Act.put, List.setIfInBounds_toArray, List.set_cons_zero, List.set_cons_succ]
          refine take_on (i := 38) (by (simp only [List.getElem?_toArray, List.getElem?_cons_succ, List.getElem?_cons_zero]) <;> rfl) (by kernel_rfl) (by kernel_rfl) (by kernel_rfl) (by intro _ _ _ _ h; exact h) (by rfl) (by assumption) ?_
          apply Exists.intro
          refine ⟨?_, ?_⟩
          · intro W0 hSw
            try dsimp only at hSw
            go_simp
            try (with_reducible rfl)
          try simp only [Act.put, List.setIfInBounds_toArray, List.set_cons_zero, List.set_cons_succ]
          refine take_on (i := 39) (by (simp only [List.getElem?_toArray, List.getElem?_cons_succ, List.getElem?_cons_zero]) <;> rfl) (by kernel_rfl) (by kernel_rfl) (by kernel_rfl) (by intro _ _ _ _ h; exact h) (by rfl) (by assumption) ?_
          apply Exists.intro
          refine ⟨?_, ?_⟩
          · intro W0 hSw
            try dsimp only at hSw
            go_simp
            try (with_reducible rfl)
          try simp only [Act.put, List.setIfInBounds_toArray, List.set_cons_zero, List.set_cons_succ]
          refine take_on (i := 40) (by (simp only [List.getElem?_toArray, List.getElem?_cons_succ, List.getElem?_cons_zero]) <;> rfl) (by kernel_rfl) (by kernel_rfl) (by kernel_rfl) (by intro _ _ _ _ h; exact h) (by rfl) (by assumption) ?_
          apply Exists.intro
          refine ⟨?_, ?_⟩
          · intro W0 hSw
            try dsimp only at hSw
            go_simp
            try (with_reducible rfl)
          try simp only [Act.put, List.setIfInBounds_toArray, List.set_cons_zero, List.set_cons_succ]
          refine take_on (i := 41) (by (simp only [List.getElem?_toArray, List.getElem?_cons_succ, List.getElem?_cons_zero]) <;> rfl) (by kernel_rfl) (by kernel_rfl) (by kernel_rfl) (by intro _ _ _ _ h; exact h) (by rfl) (by assumption) ?_
          apply Exists.intro
          refine ⟨?_, ?_⟩
          · intro W0 hSw
            try dsimp only at hSw
            go_simp
            try (with_reducible rfl)
          try simp only [Act.put, List.setIfInBounds_toArray, List.set_cons_zero, List.set_cons_succ]
          refine take_on (i := 42) (by (simp only [List.getElem?_toArray, List.getElem?_cons_succ, List.getElem?_cons_zero]) <;> rfl) (by kernel_rfl) (by kernel_rfl) (by kernel_rfl) (by intro _ _ _ _ h; exact h) (by rfl) (by assumption) ?_
          apply Exists.intro
          refine ⟨?_, ?_⟩
          · intro W0 hSw
            try dsimp only at hSw
            go_simp
            try (with_reducible rfl)
          try simp only [Act.put, List.setIfInBounds_toArray, List.set_cons_zero, List.set_cons_succ]
          refine take_on (i := 43) (by (simp only [List.getElem?_toArray, List.getElem?_cons_succ, List.getElem?_cons_zero]) <;> rfl) (by kernel_rfl) (by kernel_rfl) (by kernel_rfl) (by intro _ _ _ _ h; exact h) (by rfl) (by assumption) ?_
          apply Exists.intro
          refine ⟨?_, ?_⟩
          · intro W0 hSw
            try dsimp only at hSw
            go_simp
            try (with_reducible rfl)
          try simp only [Act.put, List.setIfInBounds_toArray, List.set_cons_zero, List.set_cons_succ]
          refine take_on (i := 44) (by (simp only [List.getElem?_toArray, List.getElem?_cons_succ, List.getElem?_cons_zero]) <;> rfl) (by kernel_rfl) (by kernel_rfl) (by kernel_rfl) (by intro _ _ _ _ h; exact h) (by rfl) (by assumption) ?_
          apply Exists.intro
          refine ⟨?_, ?_⟩
          · intro W0 hSw
            try dsimp only at hSw
            go_simp
            try (with_reducible rfl)
          try simp only [Act.put, List.setIfInBounds_toArray, List.set_cons_zero, List.set_cons_succ]
          refine take_on (i := 45) (by (simp only [List.getElem?_toArray, List.getElem?_cons_succ, List.getElem?_cons_zero]) <;> rfl) (by kernel_rfl) (by kernel_rfl) (by kernel_rfl) (by intro _ _ _ _ h; exact h) (by rfl) (by assumption) ?_
          apply Exists.intro
          refine ⟨?_, ?_⟩
          · intro W0 hSw
            try dsimp only at hSw
            go_simp
            try (with_reducible rfl)
          try simp only [Act.put, List.setIfInBounds_toArray, List.set_cons_zero, List.set_cons_succ]
          refine take_on (i := 46) (by (simp only [List.getElem?_toArray, List.getElem?_cons_succ, List.getElem?_cons_zero]) <;> rfl) (by kernel_rfl) (by kernel_rfl) (by kernel_rfl) (by intro _ _ _ _ h; exact h) (by rfl) (by assumption) ?_
          apply Exists.intro
          refine ⟨?_, ?_⟩
          · intro W0 hSw
            try dsimp only at hSw
            go_simp
            try (with_reducible rfl)
          try simp only [Act.put, List.setIfInBounds_toArray, List.set_cons_zero, List.set_cons_succ]
          refine take_on (i := 47) (by (simp only [List.getElem?_toArray, List.getElem?_cons_succ, List.getElem?_cons_zero]) <;> rfl) (by kernel_rfl) (by kernel_rfl) (by kernel_rfl) (by intro _ _ _ _ h; exact h) (by rfl) (by assumption) ?_
          apply Exists.intro
          refine ⟨?_, ?_⟩
          · intro W0 hSw
            try dsimp only at hSw
            go_simp
            try (with_reducible rfl)
          try simp only [Act.put, List.setIfInBounds_toArray, List.set_cons_zero, List.set_cons_succ]
          refine take_on (i := 48) (by (simp only [List.getElem?_toArray, List.getElem?_cons_succ, List.getElem?_cons_zero]) <;> rfl) (by kernel_rfl) (by kernel_rfl) (by kernel_rfl) (by intro _ _ _ _ h; exact h) (by rfl) (by assumption) ?_
          apply Exists.intro
          refine ⟨?_, ?_⟩
          · intro W0 hSw
            try dsimp only at hSw
            go_simp
            try (with_reducible rfl)
          try simp only [Act.put, List.setIfInBounds_toArray, List.set_cons_zero, List.set_cons_succ]
          refine take_on (i := 49) (by (simp only [List.getElem?_toArray, List.getElem?_cons_succ, List.getElem?_cons_zero]) <;> rfl) (by kernel_rfl) (by kernel_rfl) (by kernel_rfl) (by intro _ _ _ _ h; exact h) (by rfl) (by assumption) ?_
          apply Exists.intro
          refine ⟨?_, ?_⟩
          · intro W0 hSw
            try dsimp only at hSw
            go_simp
            try (with_reducible rfl)
          try simp only [Act.put, List.setIfInBounds_toArray, List.set_cons_zero, List.set_cons_succ]
          refine take_on (i := 50) (by (simp only [List.getElem?_toArray, List.getElem?_cons_succ, List.getElem?_cons_zero]) <;> rfl) (by kernel_rfl) (by kernel_rfl) (by kernel_rfl) (by intro _ _ _ _ h; exact h) (by rfl) (by assumption) ?_
          apply Exists.intro
          refine ⟨?_, ?_⟩
          · intro W0 hSw
            try dsimp only at hSw
            go_simp
            try (with_reducible rfl)
          try simp only [Act.put, List.setIfInBounds_toArray, List.set_cons_zero, List.set_cons_succ]
          refine wpAnyH_done (by kernel_rfl) ?_ _
          have E6 := E5.drop 2
          simp at E6
          go_wp2
          go_roundw
          case rel => exact ⟨q + 1, by omega, by go_num, by rw [HS.out], E6⟩
          case measure => simp [intOf]; omega
    · obtain rfl : q = l.length := by omega
      have E4 := E
      clear E
      rw [List.take_length, HT.out]
      have hTb : -100000000000 ≤ T ∧ T ≤ 100000000000 := by rw [← HT.out]; simpa [money] using hm
      obtain ⟨c, hc⟩ : ∃ c, 1 + rc = c := ⟨_, rfl⟩
      obtain ⟨c2, hc2⟩ : ∃ c, 1 + rd = c := ⟨_, rfl⟩
      obtain ⟨n, hn⟩ : ∃ c, rn - 1000 = c := ⟨_, rfl⟩
      have hw5 : IntKind.i64.wrap (rn - 1000) = n := by rw [IntKind.wrap_i64]; omega
      have n1 : -1000 ≤ n := by omega
      have n2 : n ≤ 1000 := by omega
      go_wp2_with fail
      refine (W1 _).mono ?_
      rintro e w' ⟨rfl, rfl⟩
      go_wp2_with fail
      refine (W2 _).mono ?_
      rintro e w' ⟨rfl, rfl⟩
      go_wp2_with fail
      refine (W3 _).mono ?_
      rintro e w' ⟨rfl, rfl⟩
      go_wp2_with fail
      refine (W4 _).mono ?_
      rintro e w' ⟨rfl, rfl⟩
      go_wp2_with fail
      refine (W5 _).mono ?_
      rintro e w' ⟨rfl, rfl⟩
      rcases Int.decEq (reclE l c y c2 y2 n) 0 with hq1 | hq1
      · have t1 : (reclE l c y c2 y2 n == 0) = false := by simpa using hq1
        have hl1 := reclR_no rfl hq1
        go_wp2_with fail
        refine (Regi.recl S2 E4 0 rfl c y c2 y2 n ⟨rfl, hl1⟩).mono ?_
        rintro e w5 ⟨h5, rfl, S5, E5⟩
        simp at E5
        rcases Int.decEq (moveE l c y n) 0 with hq2 | hq2
        · have t2 : (moveE l c y n == 0) = false := by simpa using hq2
          have hl2 := moveR_no rfl hq2
          go_wp2_with fail
          refine (Regi.move S5 E5 0 rfl c y n ⟨rfl, hl2⟩).mono ?_
          rintro e w6 ⟨h9, rfl, S9, E9⟩
          simp at E9
          go_wp2_with fail
          refine (Regi.rows S9 E9 0 rfl l.length rfl).mono ?_
          rintro e w10 ⟨C10, n10, h10, rfl, o10, E10⟩
          simp at E10
          have SB := same_bucket C10 C3 n10 n3 l l h10 h3 w10 (E10.sub 2 rfl) (E10.sub 1 rfl) o10.sl o3.sl
          rw [eqB_t rfl] at SB
          go_wp2_with fail
          refine SB.mono ?_
          rintro e w11 ⟨rfl, b11⟩
          have E11 := E10.below b11
          go_wp2_with fail
          refine (Regi.total S9 E11 0 rfl HT.out).mono ?_
          rintro e w12 ⟨rfl, E12⟩
          go_wp2_with fail
          refine (wakes10 _).mono ?_
          rintro e w13 ⟨rfl, B13⟩
          go_wp2
          go_ret
          exact ⟨rfl, (E12.below B13).low⟩
        · have hms := move_sum g hq2
          obtain ⟨k1, k2⟩ := move_back g hm hq2
          rw [HT.out] at hms
          go_wp2_with fail
          refine (Regi.move S5 E5 0 rfl c y n ⟨hq2, rfl⟩).mono ?_
          rintro e w6 ⟨h6, rfl, S6, E6⟩
          simp at E6
          generalize moveR l c y n = l6 at *
          go_wp2_with fail
          refine (Regi.total S6 E6 0 rfl hms).mono ?_
          rintro e w7 ⟨rfl, E7⟩
          go_wp2_with fail
          refine (Regi.move S6 E7 0 rfl c y (-n) ⟨k1, k2⟩).mono ?_
          rintro e w9 ⟨h9, rfl, S9, E9⟩
          simp at E9
          go_wp2_with fail
          refine (Regi.rows S9 E9 0 rfl l.length rfl).mono ?_
          rintro e w10 ⟨C10, n10, h10, rfl, o10, E10⟩
          simp at E10
          have SB := same_bucket C10 C3 n10 n3 l l h10 h3 w10 (E10.sub 2 rfl) (E10.sub 1 rfl) o10.sl o3.sl
          rw [eqB_t rfl] at SB
          go_wp2_with fail
          refine SB.mono ?_
          rintro e w11 ⟨rfl, b11⟩
          have E11 := E10.below b11
          go_wp2_with fail
          refine (Regi.total S9 E11 0 rfl HT.out).mono ?_
          rintro e w12 ⟨rfl, E12⟩
          go_wp2_with fail
          refine (wakes10 _).mono ?_
          rintro e w13 ⟨rfl, B13⟩
          go_wp2
          go_ret
          exact ⟨rfl, (E12.below B13).low⟩
      · have hrs := recl_sum g hq1
        rw [HT.out] at hrs
        obtain ⟨k1, k2⟩ := recl_back g hq1
        go_wp2_with fail
        refine (Regi.recl S2 E4 0 rfl c y c2 y2 n ⟨hq1, rfl⟩).mono ?_
        rintro e w14 ⟨h14, rfl, S14, E14⟩
        simp at E14
        generalize reclR l c y c2 y2 n = l14 at *
        go_wp2_with fail
        refine (Regi.total S14 E14 0 rfl hrs).mono ?_
        rintro e w15 ⟨rfl, E15⟩
        go_wp2_with fail
        refine (Regi.recl S14 E15 0 rfl c2 y2 c y n ⟨k1, k2⟩).mono ?_
        rintro e w16 ⟨h5, rfl, S5, E16⟩
        simp at E16
        go_wp2_with fail
        refine (Regi.rows S5 E16 0 rfl l.length rfl).mono ?_
        rintro e w17 ⟨C17, n17, h17, rfl, o17, E17⟩
        simp at E17
        have SB := same_bucket C17 C3 n17 n3 l l h17 h3 w17 (E17.sub 2 rfl) (E17.sub 1 rfl) o17.sl o3.sl
        rw [eqB_t rfl] at SB
        go_wp2_with fail
        refine SB.mono ?_
        rintro e w18 ⟨rfl, b18⟩
        have E5 := (E17.below b18).drop 2
        simp at E5
        clear SB
        rcases Int.decEq (moveE l c y n) 0 with hq2 | hq2
        · have t2 : (moveE l c y n == 0) = false := by simpa using hq2
          have hl2 := moveR_no rfl hq2
          go_wp2_with fail
          refine (Regi.move S5 E5 0 rfl c y n ⟨rfl, hl2⟩).mono ?_
          rintro e w6 ⟨h9, rfl, S9, E9⟩
          simp at E9
          go_wp2_with fail
          refine (Regi.rows S9 E9 0 rfl l.length rfl).mono ?_
          rintro e w10 ⟨C10, n10, h10, rfl, o10, E10⟩
          simp at E10
          have SB := same_bucket C10 C3 n10 n3 l l h10 h3 w10 (E10.sub 2 rfl) (E10.sub 1 rfl) o10.sl o3.sl
          rw [eqB_t rfl] at SB
          go_wp2_with fail
          refine SB.mono ?_
          rintro e w11 ⟨rfl, b11⟩
          have E11 := E10.below b11
          go_wp2_with fail
          refine (Regi.total S9 E11 0 rfl HT.out).mono ?_
          rintro e w12 ⟨rfl, E12⟩
          go_wp2_with fail
          refine (wakes10 _).mono ?_
          rintro e w13 ⟨rfl, B13⟩
          go_wp2
          go_ret
          exact ⟨rfl, (E12.below B13).low⟩
        · have hms := move_sum g hq2
          obtain ⟨k1, k2⟩ := move_back g hm hq2
          rw [HT.out] at hms
          go_wp2_with fail
          refine (Regi.move S5 E5 0 rfl c y n ⟨hq2, rfl⟩).mono ?_
          rintro e w6 ⟨h6, rfl, S6, E6⟩
          simp at E6
          generalize moveR l c y n = l6 at *
          go_wp2_with fail
          refine (Regi.total S6 E6 0 rfl hms).mono ?_
          rintro e w7 ⟨rfl, E7⟩
          go_wp2_with fail
          refine (Regi.move S6 E7 0 rfl c y (-n) ⟨k1, k2⟩).mono ?_
          rintro e w9 ⟨h9, rfl, S9, E9⟩
          simp at E9
          go_wp2_with fail
          refine (Regi.rows S9 E9 0 rfl l.length rfl).mono ?_
          rintro e w10 ⟨C10, n10, h10, rfl, o10, E10⟩
          simp at E10
          have SB := same_bucket C10 C3 n10 n3 l l h10 h3 w10 (E10.sub 2 rfl) (E10.sub 1 rfl) o10.sl o3.sl
          rw [eqB_t rfl] at SB
          go_wp2_with fail
          refine SB.mono ?_
          rintro e w11 ⟨rfl, b11⟩
          have E11 := E10.below b11
          go_wp2_with fail
          refine (Regi.total S9 E11 0 rfl HT.out).mono ?_
          rintro e w12 ⟨rfl, E12⟩
          go_wp2_with fail
          refine (wakes10 _).mono ?_
          rintro e w13 ⟨rfl, B13⟩
          go_wp2
          go_ret
          exact ⟨rfl, (E12.below B13).low⟩
end Go.Proofs.Ytdcfojohgcmpcaa
end
namespace Go.Proofs.Ytdcfojohgcmpcaa.bucketSums
open Go.ChangeShapes Go.WideShapes Go.ChangeAt Go.RowKit Go.Sl
set_option linter.unusedVariables false
set_option maxRecDepth 100000
set_option maxHeartbeats 2000000
theorem lifted (os : Os) (started : os.Started) (H : Type) (enc : TypeId × Value → H) :
    ReturnsInHanded {} Try.checked os 12 .any (Rows.bucketSumsSpec.pre6 enc Try.prog Try.f12 Rows.bucketSumsRow.domain false) (Rows.bucketSumsSpec.post enc Try.prog Try.f12 false true false false) := by
  refine returnsInHanded_of_change_sized (C := Try.checked) Lift.own started (by kernel_rfl) Try.func12
    (ChangeSpec.witness6 (enc := enc) (C := Try.checked) false ⟨#[], #[.slice none 0 0, .int .i64 0, .int .i64 0, .int .i64 0, .int .i64 0, .int .i64 0], []⟩ 8 (by kernel_rfl) (by kernel_rfl) (by kernel_rfl) (by kernel_rfl)) ?_
  intro W base args ds gs before hval0 hW hcnd hsz0 _
  have hval : ∀ (j : Nat) t v, Try.f12.params[j]? = some t → args[j]? = some v → Value.okWide Try.prog W .any base t v := hval0
  have hW' := hW
  obtain ⟨p, q, hA0, hV, rfl, hfz, hnd⟩ := hW
  have hA : DataW.TrodAll enc Try.prog W 0 (fun _ => true) true Try.f12.params.toList args.toList ds p := hA0
  rw [Try.params12] at hA hval
  obtain ⟨v0, vs0, d0, ds0, p0, q0, hargs, rfl, rfl, h0, r0⟩ := trodAll_cons hA
  obtain ⟨v1, vs1, d1, ds1, p1, q1, rfl, rfl, rfl, h1, r1⟩ := trodAll_cons r0
  obtain ⟨v2, vs2, d2, ds2, p2, q2, rfl, rfl, rfl, h2, r2⟩ := trodAll_cons r1
  obtain ⟨v3, vs3, d3, ds3, p3, q3, rfl, rfl, rfl, h3, r3⟩ := trodAll_cons r2
  obtain ⟨v4, vs4, d4, ds4, p4, q4, rfl, rfl, rfl, h4, r4⟩ := trodAll_cons r3
  obtain ⟨v5, vs5, d5, ds5, p5, q5, rfl, rfl, rfl, h5, r5⟩ := trodAll_cons r4
  obtain ⟨rfl, rfl, rfl⟩ := trodAll_nil r5
  obtain rfl : args = #[v0, v1, v2, v3, v4, v5] := by cases args; simp_all
  obtain ⟨rfl, rfl⟩ := trodVars_none hV
  have k0 := h0
  have lt0 : ∀ x ∈ p0, x.block < W.heap.size := by obtain ⟨m, hm⟩ := k0; exact DataW.trod_lt m _ _ _ hm
  obtain ⟨A0, c0, z0, rfl, s0, w0⟩ := Lift.ints_of (hval 0 22 v0 rfl rfl) h0
  obtain ⟨a1, rfl, rfl, rfl, x1⟩ := open_int Try.underlying3 (hval 1 3 v1 rfl rfl) h1
  have w1 := I64.of_wf x1
  obtain ⟨a2, rfl, rfl, rfl, x2⟩ := open_int Try.underlying3 (hval 2 3 v2 rfl rfl) h2
  have w2 := I64.of_wf x2
  obtain ⟨a3, rfl, rfl, rfl, x3⟩ := open_int Try.underlying3 (hval 3 3 v3 rfl rfl) h3
  have w3 := I64.of_wf x3
  obtain ⟨a4, rfl, rfl, rfl, x4⟩ := open_int Try.underlying3 (hval 4 3 v4 rfl rfl) h4
  have w4 := I64.of_wf x4
  obtain ⟨a5, rfl, rfl, rfl, x5⟩ := open_int Try.underlying3 (hval 5 3 v5 rfl rfl) h5
  have w5 := I64.of_wf x5
  clear hA0 hval0 hsz0
  refine (bucketSums_calls A0 c0 z0 a1 a2 a3 a4 a5 (Hp.all W) W (Hp.all_sub W) s0 w0).mono fun e W' ⟨he, bel⟩ => ?_
  subst he
  exact ⟨_, rfl, _, _, _, [], _, [], hW', trodAll_mk1 (shut_bool Try.underlying4 _), (trodAll_cons_mk (Below.trod Lift.laidOut (by kernel_rfl) (of_decide_eq_true (by kernel_rfl)) k0 bel lt0) (trodAll_cons_mk (shut_int Try.underlying3 x1) (trodAll_cons_mk (shut_int Try.underlying3 x2) (trodAll_cons_mk (shut_int Try.underlying3 x3) (trodAll_cons_mk (shut_int Try.underlying3 x4) (trodAll_cons_mk (shut_int Try.underlying3 x5) trodAll_mk0)))))), rfl, bel.frame _, fun h => by cases h⟩
theorem over : Rows.bucketSumsRow.holds Try.pinned (OpenSpec.ofChange Rows.bucketSumsSpec) :=
  OpenClaim.holds_of_wide 12 Try.f12 rfl rfl rfl rfl rfl rfl rfl ⟨rfl, rfl, rfl, rfl, rfl⟩ rfl rfl rfl rfl rfl (by kernel_rfl) Try.func12 (by kernel_rfl)
    (of_decide_eq_true (by kernel_rfl)) (by unfold Func.isWrapper; first | (rw [if_pos (by decide +kernel)]; kernel_rfl) | (rw [if_neg (by decide +kernel)]; exact ⟨rfl, rfl⟩))
    (fun os started H enc _ => lifted os started H enc)
end Go.Proofs.Ytdcfojohgcmpcaa.bucketSums
namespace Go.Proofs.Ytdcfojohgcmpcaa
theorem bucketSums_holds : Rows.BucketSumsSaid := bucketSums.over
#print axioms bucketSums_holds
end Go.Proofs.Ytdcfojohgcmpcaa
