/- Walks and plain facts that the laws of this seat share, part 7: contracts of functions, each said at its theorem. -/
import Derived.Test.YtpigoegjoagbnaaPk6
import Derived.Deep.RegionHeld3
import Derived.WalkKit
import Derived.Laws.StructEq
set_option linter.all false
section
/- The reference's losses in a body's own memory; play.Losses; law13.Of. -/
namespace Go.Sl
open Go Go.RowKit
theorem tdivBd {z k : Int} (hk : 0 < k) (hz : -9223372036854775808 ≤ z ∧ z ≤ 9223372036854775807) : -9223372036854775808 ≤ z.tdiv k ∧ z.tdiv k ≤ 9223372036854775807 := by
  have key : ∀ m : Int, 0 ≤ m → 0 ≤ m.tdiv k ∧ m.tdiv k ≤ m := fun m hm => by
    rw [Int.tdiv_eq_ediv_of_nonneg hm]
    exact ⟨Int.ediv_nonneg hm (by omega), Int.ediv_le_self _ hm⟩
  rcases Int.le_total 0 z with h | h
  · have := key z h; omega
  · have h2 := key (-z) (by omega)
    rw [Int.neg_tdiv] at h2; omega
/-- Losses out of numbers. -/
def lossStep (l : List STri) (z : Int) : List STri := vAdd l (within z 5) (within z 5 + within (z.tdiv 5) 5) (max (amount (z.tdiv 25)) 1)
def lossOf (zs : List Int) : List STri := (zs.take 8).foldl lossStep []
theorem GoodV.foldl : ∀ (zs : List Int) (l : List STri), GoodV l → GoodV (zs.foldl lossStep l)
  | [], _, g => g
  | _ :: zs, _, g => GoodV.foldl zs _ (g.add _ _ _)
theorem lossOf_good (zs : List Int) : GoodV (lossOf zs) := GoodV.foldl _ _ .nil
theorem lossOf_step {zs : List Int} {j : Nat} {z : Int} (hz : Hid (zs[j]? = some z)) : (zs.take (j + 1)).foldl lossStep [] = lossStep ((zs.take j).foldl lossStep []) z := by
  rw [take_next hz, List.foldl_append]; rfl
theorem amount_bd (n : Int) (h : -9223372036854775808 ≤ n ∧ n ≤ 9223372036854775807) : -9223372036854775808 ≤ amount n ∧ amount n ≤ 9223372036854775807 := by
  unfold amount
  have h5 := within_lo (n.tdiv 23) (n := 5) (by omega)
  have h5' := within_hi (n.tdiv 23) (n := 5) (by omega)
  have h6 := within_lo (n.tdiv 23) (n := 200000000001) (by omega)
  have h6' := within_hi (n.tdiv 23) (n := 200000000001) (by omega)
  have h7 := within_lo n (n := 4001) (by omega)
  have h7' := within_hi n (n := 4001) (by omega)
  repeat (first | split | omega)
/-- Of good losses those ahead of one take it on behind them. -/
theorem GoodV.next {l : List STri} (g : GoodV l) {j : Nat} {x : STri} (hx : l[j]? = some x) : vAddE (l.take j) x.a x.b x.c = 0 ∧ vAdd (l.take j) x.a x.b x.c = l.take (j + 1) := by
  have hm := List.mem_of_getElem? hx
  have hlt : j < l.length := (List.getElem?_eq_some_iff.1 hx).1
  have h1 := g.lo x hm
  have h2 := le_sumC g.lo hm
  have h3 := g.mon
  have h4 := g.rng x hm
  have h5 := sumC_take_le g.lo (j + 1)
  have hT := take_next (xs := l) (i := j) (x := x) hx
  have h6 : sumC (l.take (j + 1)) = sumC (l.take j) + x.c := by rw [hT]; simp [sumC]
  have h7 := sumC_take_le g.lo j
  have hlt2 : ∀ y ∈ l.take j, ordPair.lt (vkey y) (vkey x) = true := fun y hy => by
    obtain ⟨i, hi⟩ := List.mem_iff_getElem?.1 hy
    have hil : i < j := by
      have := (List.getElem?_eq_some_iff.1 hi).1
      rw [List.length_take] at this; omega
    rw [List.getElem?_take, if_pos hil] at hi
    have := List.pairwise_iff_getElem.1 g.rise i j (by omega) hlt hil
    rw [List.getElem?_eq_some_iff] at hi hx
    rw [hi.2, hx.2] at this; exact this
  have hno : (l.take j).any (isV x.a x.b) = false := by
    rw [List.any_eq_false]; intro y hy h
    exact ordPair.ne (hlt2 y hy) (isV_key.1 h)
  have hE : vAddE (l.take j) x.a x.b x.c = 0 := by
    have h9 := g.len
    unfold vAddE
    rw [if_neg (by simp [h4, money]; omega), if_neg (by simp [money]; omega), if_neg (by rw [hno]; decide), if_neg (by rw [List.length_take]; omega)]
  refine ⟨hE, ?_⟩
  unfold vAdd
  rw [if_pos hE, getV_any hno, Int.zero_add, hT]
  have e1 : (l.take j).filter (fun y => ordPair.lt (vkey y) (vkey x)) = l.take j := List.filter_eq_self.2 hlt2
  have e2 : (l.take j).filter (fun y => ordPair.lt (vkey x) (vkey y)) = [] := List.filter_eq_nil_iff.2 fun y hy => by rw [ordPair.asymm (hlt2 y hy)]; decide
  show put ordPair vkey x (l.take j) = _
  unfold put
  rw [e1, e2]
end Go.Sl
namespace Go.Proofs.Ytpigoegjoagbnaa
open Go.RowKit Go.Sl
set_option maxHeartbeats 1000000
set_option maxRecDepth 100000
set_option linter.unusedSimpArgs false
structure Los (h : Hp) (b : Nat) (l : List STri) : Prop where
  pt : PtL h b l
  good : GoodV l
section
variable {w0 w : World} {L : List Hp} {h : Hp} {b : Nat} {l : List STri}
theorem Los.box (b : Nat) : Los (Hp.box b [.slice none 0 0] 46) b [] := ⟨⟨_, Hp.one_self _ _, none, 0, rfl, Ow.none _ _⟩, .nil⟩
theorem Los.rows (S : Los h b l) (E : Env w0 w L) (i : Nat) (hi : L[i]? = some h) : ∃ A ca, w.cell? ⟨b, 0, none⟩ = some (.slice A l.length ca) ∧ Sl kTri h A ca l := S.pt.reg (E.sub i hi)
theorem Los.left (S : Los h b l) (E : Env w0 w L) (i : Nat) (hi : L[i]? = some h) {v : Int} (hv : sumC l = v) :
    Calls Try.prog 29 #[.pointer (some ⟨b, 0, none⟩)] w fun e w' => e = .returned (.int .i64 v) ∧ Env w0 w' L := by
  subst hv
  exact (refLossLeft_calls b l h w (E.sub i hi) S.pt (by have := S.good.len; omega) (fun x hx => by have := S.good.lo x hx; have := le_sumC S.good.lo hx; have := S.good.mon; omega)).mono fun _ _ ⟨he, hb⟩ => ⟨he, E.below hb⟩
theorem Los.copy (S : Los h b l) (E : Env w0 w L) (i : Nat) (hi : L[i]? = some h) :
    Calls Try.prog 59 #[.pointer (some ⟨b, 0, none⟩)] w fun e w' => ∃ h' b', e = .returned (.pointer (some ⟨b', 0, none⟩)) ∧ Los h' b' l ∧ Env w0 w' (L ++ [h']) :=
  (refLossCopy_calls b l h w (E.sub i hi) S.pt (by have := S.good.len; omega)).mono fun _ _ ⟨h', b', he, hp, u⟩ => ⟨h', b', he, ⟨hp, S.good⟩, E.new u⟩
theorem Los.exp (S : Los h b l) (E : Env w0 w L) (i : Nat) (hi : L[i]? = some h) (y : Int) {q : Int} {ys : List STri} (hE : vGone l y = q ∧ vExp l y = ys) :
    Calls Try.prog 24 #[.pointer (some ⟨b, 0, none⟩), .int .i64 y] w fun e w' => ∃ h', e = .returned (.int .i64 q) ∧ Los h' b ys ∧ Env w0 w' (L.set i h') := by
  obtain ⟨h1, h2⟩ := hE
  subst h1 h2
  exact (refLossExp_calls b l y h w (E.sub i hi) S.pt S.good).mono fun _ _ ⟨h', he, hp, u⟩ => ⟨h', he, ⟨hp, S.good.exp y⟩, E.upd i hi u⟩
theorem Los.add (S : Los h b l) (E : Env w0 w L) (i : Nat) (hi : L[i]? = some h) (o x n : Int) {q : Int} {ys : List STri} (hE : vAddE l o x n = q ∧ vAdd l o x n = ys) :
    Calls Try.prog 23 #[.pointer (some ⟨b, 0, none⟩), .int .i64 o, .int .i64 x, .int .i64 n] w fun e w' => ∃ h', e = .returned (.int .i64 q) ∧ Los h' b ys ∧ Env w0 w' (L.set i h') := by
  obtain ⟨h1, h2⟩ := hE
  subst h1 h2
  exact (refLossAdd_calls b l o x n h w (E.sub i hi) S.pt S.good).mono fun _ _ ⟨h', he, hp, u⟩ => ⟨h', he, ⟨hp, S.good.add o x n⟩, E.upd i hi u⟩
theorem Los.take (S : Los h b l) (E : Env w0 w L) (i : Nat) (hi : L[i]? = some h) {U : Option Addr} {cu : Nat} {us : List Int} {k : Hp} (ks : k.sub w) (su : Sl kInt k U cu us) (hz : ∀ u ∈ us, I64 u) (n : Nat) (hn : us.length = n) {q : Int} {ys : List STri} (hE : vTakeE l us = q ∧ vTake l us = ys) :
    Calls Try.prog 27 #[.pointer (some ⟨b, 0, none⟩), .slice U n cu] w fun e w' => ∃ h', e = .returned (.int .i64 q) ∧ Los h' b ys ∧ Env w0 w' (L.set i h') := by
  obtain ⟨h1, h2⟩ := hE
  subst h1 h2 hn
  exact (refLossTake_calls b l h w (E.sub i hi) S.pt S.good U cu us k ks su hz).mono fun _ _ ⟨h', he, hp, u⟩ => ⟨h', he, ⟨hp, S.good.take us⟩, E.upd i hi u⟩
end
theorem playLosses_calls (A : Option Addr) (ca : Nat) (zs : List Int) (h : Hp) (w : World) (hs : h.sub w) (sx : Sl kInt h A ca zs) (hz : ∀ n ∈ zs, I64 n) :
    Calls Try.prog 33 #[.slice A zs.length ca] w fun e w' => ∃ h' b, e = .returned (.pointer (some ⟨b, 0, none⟩)) ∧ Los h' b (lossOf zs) ∧ Env w w' [h'] := by
  have m1 := sx.small
  have HZ := Lib.hid hz
  clear hz
  have E0 := (Env.start w).alloc (.cells #[.slice none 0 0] 46)
  simp at E0
  go_enter Try.func33, Try.ntmps33
  go_wp2
  go_loopw [4] (fun i wr => ∃ (j : Nat) (h' : Hp), j ≤ zs.length ∧ j ≤ 8 ∧ i = .int .i64 j ∧ Los h' w.heap.size ((zs.take j).foldl lossStep []) ∧ Env w wr [h']) (fun i _ => 8 - (intOf i).toNat)
  case atStart => exact ⟨0, _, by omega, by omega, rfl, Los.box _, E0⟩
  case round =>
    clear E0
    obtain ⟨j, h', hj, hj2, rfl, S, E⟩ := hrel
    by_cases hlt : j < zs.length
    · by_cases hlt2 : j < 8
      · obtain ⟨z, hzz⟩ := some_of_lt hlt
        obtain ⟨b1, o1, rfl, c1⟩ := sx.int (hs.of_below E.low) hzz
        have KC : ∀ V L, Env w V L → V.cell? ⟨b1, o1 + j, none⟩ = some (.int .i64 z) := fun V L E => by
          obtain ⟨b', o', e', h1⟩ := sx.int (hs.of_below E.low) hzz
          cases e'; exact h1
        obtain ⟨z1, z2⟩ := HZ.out z (List.mem_of_getElem? hzz.out)
        have i1 : (0 : Int) ≤ (j : Int) := by omega
        have i2 : (j : Int) < (zs.length : Int) := by omega
        have a1 : -9223372036854775808 ≤ z.tdiv 5 ∧ z.tdiv 5 ≤ 9223372036854775807 := tdivBd (by omega) ⟨z1, z2⟩
        have a2 : -9223372036854775808 ≤ z.tdiv 25 ∧ z.tdiv 25 ≤ 9223372036854775807 := tdivBd (by omega) ⟨z1, z2⟩
        have w1 := within_lo z (n := 5) (by omega)
        have w2 := within_hi z (n := 5) (by omega)
        have w3 := within_lo (z.tdiv 5) (n := 5) (by omega)
        have w4 := within_hi (z.tdiv 5) (n := 5) (by omega)
        have hq5 : IntKind.i64.wrap (z.tdiv 5) = z.tdiv 5 := by rw [IntKind.wrap_i64]; omega
        have hq25 : IntKind.i64.wrap (z.tdiv 25) = z.tdiv 25 := by rw [IntKind.wrap_i64]; omega
        have ab := amount_bd _ a2
        have HT : Hid ((zs.take (j + 1)).foldl lossStep [] = vAdd ((zs.take j).foldl lossStep []) (within z 5) (within z 5 + within (z.tdiv 5) 5) (max (amount (z.tdiv 25)) 1)) := lossOf_step hzz
        generalize (zs.take j).foldl lossStep [] = l at *
        have WC1 := fun W => within_calls z 5 W (by omega) (by omega)
        have WC2 := fun W => within_calls (z.tdiv 5) 5 W (by omega) (by omega)
        have AC := fun W => amount_calls (z.tdiv 25) a2 W
        clear a1 a2
        generalize within z 5 = o at *
        generalize within (z.tdiv 5) 5 = q at *
        generalize amount (z.tdiv 25) = am at *
        have hwq : IntKind.i64.wrap (o + q) = o + q := by rw [IntKind.wrap_i64]; omega
        obtain ⟨mx, hmx⟩ : ∃ mx, max am 1 = mx := ⟨_, rfl⟩
        rw [hmx] at HT
        have hif : (if am ≤ 1 then (1 : Int) else am) = mx := by omega
        go_wp2_with fail
        refine (WC1 _).mono ?_
        rintro e w' ⟨rfl, rfl⟩
        go_upto_region 6 with fail
        clear w1 w2 w3 w4
        refine wp_region_held_drew (S := (fun V => V.cell? ⟨b1, o1 + j, none⟩ = some (.int .i64 z))) (by kernel_rfl) ?_ (fun hHeld => ?_)
        · (try dsimp only)
          first | (go_keep)
        refine take_on (i := 0) (by (simp only [List.getElem?_toArray, List.getElem?_cons_succ, List.getElem?_cons_zero]) <;> rfl) (by kernel_rfl) (by kernel_rfl) (by kernel_rfl) (by intro _ _ _ _ h; exact h) (by rfl) (by assumption) ?_
        apply Exists.intro
        refine ⟨?_, ?_⟩
        · intro W0 hSw
          try dsimp only at hSw
          go_simp
          try (with_reducible rfl)
        try simp only [Act.put, List.setIfInBounds_toArray, List.set_cons_zero, List.set_cons_succ]
        refine take_on (i := 1) (by (simp only [List.getElem?_toArray, List.getElem?_cons_succ, List.getElem?_cons_zero]) <;> rfl) (by kernel_rfl) (by kernel_rfl) (by kernel_rfl) (by intro _ _ _ _ h; exact h) (by rfl) (by assumption) ?_
        apply Exists.intro
        refine ⟨?_, ?_⟩
        · intro W0 hSw
          try dsimp only at hSw
          go_simp
          try (with_reducible rfl)
        try simp only [Act.put, List.setIfInBounds_toArray, List.set_cons_zero, List.set_cons_succ]
        refine take_on (i := 2) (by (simp only [List.getElem?_toArray, List.getElem?_cons_succ, List.getElem?_cons_zero]) <;> rfl) (by kernel_rfl) (by kernel_rfl) (by kernel_rfl) (by intro _ _ _ _ h; exact h) (by rfl) (by assumption) ?_
        apply Exists.intro
        refine ⟨?_, ?_⟩
        · intro W0 hSw
          try dsimp only at hSw
          go_simp
          try (with_reducible rfl)
        try simp only [Act.put, List.setIfInBounds_toArray, List.set_cons_zero, List.set_cons_succ]
        refine take_on (i := 3) (by (simp only [List.getElem?_toArray, List.getElem?_cons_succ, List.getElem?_cons_zero]) <;> rfl) (by kernel_rfl) (by kernel_rfl) (by kernel_rfl) (by intro _ _ _ _ h; exact h) (by rfl) (by assumption) ?_
        apply Exists.intro
        refine ⟨?_, ?_⟩
        · intro W0 hSw
          try dsimp only at hSw
          go_simp
          try (with_reducible rfl)
        try simp only [Act.put, List.setIfInBounds_toArray, List.set_cons_zero, List.set_cons_succ]
        refine take_on (i := 4) (by (simp only [List.getElem?_toArray, List.getElem?_cons_succ, List.getElem?_cons_zero]) <;> rfl) (by kernel_rfl) (by kernel_rfl) (by kernel_rfl) (by intro _ _ _ _ h; exact h) (by rfl) (by assumption) ?_
        apply Exists.intro
        refine ⟨?_, ?_⟩
        · intro W0 hSw
          try dsimp only at hSw
          go_simp
          try (with_reducible rfl)
        try simp only [Act.put, List.setIfInBounds_toArray, List.set_cons_zero, List.set_cons_succ]
        refine take_on (i := 5) (by (simp only [List.getElem?_toArray, List.getElem?_cons_succ, List.getElem?_cons_zero]) <;> rfl) (by kernel_rfl) (by kernel_rfl) (by kernel_rfl) (by intro _ _ _ _ h; exact h) (by rfl) (by assumption) ?_
        apply Exists.intro
        refine ⟨?_, ?_⟩
        · intro W0 hSw
          try dsimp only at hSw
          go_simp
          try (with_reducible rfl)
        try simp only [Act.put, List.setIfInBounds_toArray, List.set_cons_zero, List.set_cons_succ]
        refine take_on (i := 6) (by (simp only [List.getElem?_toArray, List.getElem?_cons_succ, List.getElem?_cons_zero]) <;> rfl) (by kernel_rfl) (by kernel_rfl) (by kernel_rfl) (by intro _ _ _ _ h; exact h) (by rfl) (by assumption) ?_
        apply Exists.intro
        refine ⟨?_, ?_⟩
        · intro W0 hSw
          try dsimp only at hSw
          go_simp
          try (with_reducible rfl)
        try simp only [Act.put, List.setIfInBounds_toArray, List.set_cons_zero, List.set_cons_succ]
        refine take_on (i := 7) (by (simp only [List.getElem?_toArray, List.getElem?_cons_succ, List.getElem?_cons_zero]) <;> rfl) (by kernel_rfl) (by kernel_rfl) (by kernel_rfl) (by intro _ _ _ _ h; exact h) (by rfl) (by assumption) ?_
        apply Exists.intro
        refine ⟨?_, ?_⟩
        · intro W0 hSw
          try dsimp only at hSw
          go_simp
          try (with_reducible rfl)
        try simp only [Act.put, List.setIfInBounds_toArray, List.set_cons_zero, List.set_cons_succ]
        refine take_on (i := 10) (by (simp only [List.getElem?_toArray, List.getElem?_cons_succ, List.getElem?_cons_zero]) <;> rfl) (by kernel_rfl) (by kernel_rfl) (by kernel_rfl) (by intro _ _ _ _ h; exact h) (by rfl) (by assumption) ?_
        apply Exists.intro
        refine ⟨?_, ?_⟩
        · intro W0 hSw
          try dsimp only at hSw
          go_simp
          try (with_reducible rfl)
        try simp only [Act.put, List.setIfInBounds_toArray, List.set_cons_zero, List.set_cons_succ]
        refine take_on (i := 11) (by (simp only [List.getElem?_toArray, List.getElem?_cons_succ, List.getElem?_cons_zero]) <;> rfl) (by kernel_rfl) (by kernel_rfl) (by kernel_rfl) (by intro _ _ _ _ h; exact h) (by rfl) (by assumption) ?_
        apply Exists.intro
        refine ⟨?_, ?_⟩
        · intro W0 hSw
          try dsimp only at hSw
          go_simp
          try (with_reducible rfl)
        try simp only [Act.put, List.setIfInBounds_toArray, List.set_cons_zero, List.set_cons_succ]
        refine take_on (i := 12) (by (simp only [List.getElem?_toArray, List.getElem?_cons_succ, List.getElem?_cons_zero]) <;> rfl) (by kernel_rfl) (by kernel_rfl) (by kernel_rfl) (by intro _ _ _ _ h; exact h) (by rfl) (by assumption) ?_
        apply Exists.intro
        refine ⟨?_, ?_⟩
        · intro W0 hSw
          try dsimp only at hSw
          go_simp
          try (with_reducible rfl)
        try simp only [Act.put, List.setIfInBounds_toArray, List.set_cons_zero, List.set_cons_succ]
        refine take_on (i := 13) (by (simp only [List.getElem?_toArray, List.getElem?_cons_succ, List.getElem?_cons_zero]) <;> rfl) (by kernel_rfl) (by kernel_rfl) (by kernel_rfl) (by intro _ _ _ _ h; exact h) (by rfl) (by assumption) ?_
        apply Exists.intro
        refine ⟨?_, ?_⟩
        · intro W0 hSw
          try dsimp only at hSw
          go_simp
          try (with_reducible rfl)
        try simp only [Act.put, List.setIfInBounds_toArray, List.set_cons_zero, List.set_cons_succ]
        refine take_on (i := 14) (by (simp only [List.getElem?_toArray, List.getElem?_cons_succ, List.getElem?_cons_zero]) <;> rfl) (by kernel_rfl) (by kernel_rfl) (by kernel_rfl) (by intro _ _ _ _ h; exact h) (by rfl) (by assumption) ?_
        apply Exists.intro
        refine ⟨?_, ?_⟩
        · intro W0 hSw
          try dsimp only at hSw
          go_simp
          try (with_reducible rfl)
        try simp only [Act.put, List.setIfInBounds_toArray, List.set_cons_zero, List.set_cons_succ]
        refine wpAnyH_ready (rs := [8]) (by kernel_rfl) (by simp) ?_
        refine AllReadyH.cons (by (simp only [List.getElem?_toArray, List.getElem?_cons_succ, List.getElem?_cons_zero]) <;> rfl) (fun K hK => ?_) AllReadyH.nil
        go_simp
        refine (WC2 _).mono ?_
        rintro e w' ⟨rfl, rfl⟩
        go_wp2_with fail
        refine hK.out _ _ ?_ (fun hHeld => ?_)
        · (try dsimp only)
          first | (exact hkeep) | (go_keep)
        clear hK K
        try simp only [Act.put, List.setIfInBounds_toArray, List.set_cons_zero, List.set_cons_succ]
        refine take_on (i := 9) (by (simp only [List.getElem?_toArray, List.getElem?_cons_succ, List.getElem?_cons_zero]) <;> rfl) (by kernel_rfl) (by kernel_rfl) (by kernel_rfl) (by intro _ _ _ _ h; exact h) (by rfl) (by assumption) ?_
        apply Exists.intro
        refine ⟨?_, ?_⟩
        · intro W0 hSw
          try dsimp only at hSw
          go_simp
          try (with_reducible rfl)
        try simp only [Act.put, List.setIfInBounds_toArray, List.set_cons_zero, List.set_cons_succ]
        refine wpAnyH_ready (rs := [15]) (by kernel_rfl) (by simp) ?_
        refine AllReadyH.cons (by (simp only [List.getElem?_toArray, List.getElem?_cons_succ, List.getElem?_cons_zero]) <;> rfl) (fun K hK => ?_) AllReadyH.nil
        go_simp
        refine (AC _).mono ?_
        rintro e w' ⟨rfl, rfl⟩
        go_wp2_with fail
        refine hK.out _ _ ?_ (fun hHeld => ?_)
        · (try dsimp only)
          first | (exact hkeep) | (go_keep)
        clear hK K
        try simp only [Act.put, List.setIfInBounds_toArray, List.set_cons_zero, List.set_cons_succ]
        refine take_on (i := 16) (by (simp only [List.getElem?_toArray, List.getElem?_cons_succ, List.getElem?_cons_zero]) <;> rfl) (by kernel_rfl) (by kernel_rfl) (by kernel_rfl) (by intro _ _ _ _ h; exact h) (by rfl) (by assumption) ?_
        apply Exists.intro
        refine ⟨?_, ?_⟩
        · intro W0 hSw
          try dsimp only at hSw
          go_simp
          try (with_reducible rfl)
        try simp only [Act.put, List.setIfInBounds_toArray, List.set_cons_zero, List.set_cons_succ]
        refine wpAnyH_ready (rs := [17]) (by kernel_rfl) (by simp) ?_
        refine AllReadyH.cons (by (simp only [List.getElem?_toArray, List.getElem?_cons_succ, List.getElem?_cons_zero]) <;> rfl) (fun K hK => ?_) AllReadyH.nil
        go_simp
        (with_reducible refine (Los.add S (by repeat (first | (with_reducible exact E) | (with_reducible apply Env.drew) | (with_reducible apply Env.drewN) | (with_reducible apply Env.alloc'))) 0 rfl o (o + q) mx ⟨rfl, rfl⟩).mono ?_)
        rintro e w3 ⟨h3, rfl, S3, E3⟩
        simp only [List.set_cons_zero] at E3
        have hkeep := KC _ _ E3
        go_wp2_with fail
        refine hK.out _ _ ?_ (fun hHeld => ?_)
        · (try dsimp only)
          first | (exact hkeep) | (go_keep)
        clear hK K
        try simp only [Act.put, List.setIfInBounds_toArray, List.set_cons_zero, List.set_cons_succ]
        refine wpAnyH_done (by kernel_rfl) ?_ _
        go_wp2
        go_roundw
        case rel => exact ⟨j + 1, h3, by omega, by omega, by go_num, by rw [HT.out]; exact S3, E3⟩
        case measure => simp [intOf]; omega
      · have HF : Hid (lossOf zs = (zs.take j).foldl lossStep []) := by unfold Hid lossOf; rw [show j = 8 by omega]
        go_wp2
        go_ret
        exact ⟨h', _, rfl, by rw [HF.out]; exact S, E⟩
    · have HF : Hid (lossOf zs = (zs.take j).foldl lossStep []) := by unfold Hid lossOf; rw [List.take_of_length_le (l := zs) (i := 8) (by omega), List.take_of_length_le (l := zs) (i := j) (by omega)]
      go_wp2
      go_ret
      exact ⟨h', _, rfl, by rw [HF.out]; exact S, E⟩
/-- The program's losses made of the document's: never nil. -/
theorem of13_calls (b0 : Nat) (h0 : Hp) (l : List STri) (w : World) (hs : h0.sub w) (S0 : Los h0 b0 l) :
    Calls Try.prog 34 #[.pointer (some ⟨b0, 0, none⟩)] w fun e w' => ∃ h b, e = .returned (.pointer (some ⟨b, 0, none⟩)) ∧ Vnt h b l ∧ Env w w' [h] := by
  obtain ⟨A, ca, hc, sx⟩ := S0.pt.reg hs
  have g := S0.good
  have hlen := g.len
  have GN := fun j x (hx : l[j]? = some x) => g.next hx
  have GN := Lib.hid GN
  have E0 := Env.start w
  go_enter Try.func34, Try.ntmps34
  go_wp2_with fail
  refine (Vnt.new E0).mono ?_
  rintro e w1 ⟨h1, c, rfl, S1, E1⟩
  try simp at E1
  have hc1 := (E1.low.cell (World.block_lt_of_cell? w _ hc)).trans hc
  go_wp2_with fail
  clear hc1
  go_loopw [14] (fun i wr => ∃ (j : Nat) (g1 : Hp), j ≤ l.length ∧ i = .int .i64 j ∧ Vnt g1 c (l.take j) ∧ Env w wr [g1]) (fun i _ => l.length - (intOf i).toNat)
  case atStart => exact ⟨0, h1, by omega, rfl, S1, E1⟩
  case round =>
    clear S1 E1
    obtain ⟨j, g1, hj, rfl, S, E⟩ := hrel
    by_cases hlt : j < l.length
    · obtain ⟨x, hx⟩ := some_of_lt hlt
      obtain ⟨b1, o1, rfl, c1, c2, c3⟩ := sx.tri (hs.of_below E.low) hx
      have i1 : (0 : Int) ≤ (j : Int) := by omega
      have i2 : (j : Int) < (l.length : Int) := by omega
      have gn := GN.out j x hx.out
      have G1 := Lib.hid gn.1
      have G2 := Lib.hid gn.2
      clear gn
      go_upto_region 7 with fail
      replace E := E.alloc (.cells #[.int .i64 x.a, .int .i64 x.b, .int .i64 x.c] 34)
      simp at E
      obtain ⟨W, hW⟩ : ∃ W : World, W = wr.alloc (.cells #[.int .i64 x.a, .int .i64 x.b, .int .i64 x.c] 34) := ⟨_, rfl⟩
      rw [← hW] at E
      rw [← hW]
      clear hW
      have q0 := E.cell 1 rfl 0 rfl
      have q1 := E.cell 1 rfl 1 rfl
      have q2 := E.cell 1 rfl 2 rfl
      clear c1 c2 c3
      go_wp2_with fail
      refine (Vnt.add S E 0 rfl _ _ _ ⟨G1.out, G2.out⟩).mono ?_
      rintro e w3 ⟨h3, rfl, S3, E3⟩
      have E4 := E3.drop 1
      simp at E4
      go_wp2
      go_roundw
      case rel => exact ⟨j + 1, h3, by omega, by go_num, S3, E4⟩
      case measure => simp [intOf]; omega
    · obtain rfl : j = l.length := by omega
      rw [List.take_length] at S
      go_wp2
      go_ret
      exact ⟨g1, c, rfl, S, E⟩
end Go.Proofs.Ytpigoegjoagbnaa
end
section
/- keep.Same over int: the same things? -/
namespace Go.Proofs.Ytpigoegjoagbnaa
open Go.RowKit Go.Sl
set_option maxHeartbeats 1000000
set_option maxRecDepth 100000
theorem same_int (A B : Option Addr) (ca cb : Nat) (xs ys : List Int) (h k : Hp) (w : World) (hs : h.sub w) (ks : k.sub w) (sx : Sl kInt h A ca xs) (sy : Sl kInt k B cb ys) :
    Calls Try.prog 28 #[.slice A xs.length ca, .slice B ys.length cb] w fun e w' => e = .returned (.bool (eqB xs ys)) ∧ Below w.heap.size w w' := by
  have m1 := sx.small
  have m2 := sy.small
  by_cases hl : xs.length = ys.length
  · have hl1 : ((xs.length : Int) == (ys.length : Int)) = true := by simp [hl]
    have hl2 : ((xs.length : Int) != (ys.length : Int)) = false := by simp [hl]
    have hL := Lib.hid hl
    clear hl
    go_enter Try.func28, Try.ntmps28
    go_wp2
    clear hl1 hl2
    go_loopw [5] (fun i wr => ∃ j : Nat, j ≤ xs.length ∧ i = .int .i64 j ∧ Hid (xs.take j = ys.take j) ∧ Below w.heap.size w wr) (fun i _ => xs.length - (intOf i).toNat)
    case atStart => exact ⟨0, by omega, rfl, rfl, Below.refl _ _⟩
    case round =>
      obtain ⟨j, hj, rfl, he, hb⟩ := hrel
      by_cases hlt : j < xs.length
      · have hlt2 : j < ys.length := by have := hL.out; omega
        obtain ⟨x, hx⟩ := some_of_lt hlt
        obtain ⟨y, hy⟩ := some_of_lt hlt2
        obtain ⟨b1, o1, rfl, c1⟩ := sx.int (hs.of_below hb) hx
        obtain ⟨b2, o2, rfl, d1⟩ := sy.int (ks.of_below hb) hy
        have i1 : (0 : Int) ≤ (j : Int) := by omega
        have i2 : (j : Int) < (xs.length : Int) := by omega
        have i3 : (j : Int) < (ys.length : Int) := by omega
        have hE := take_both hx hy
        by_cases hxy : x = y
        · have hd : (x != y) = false := by simpa using hxy
          have hE2 := hE.2 ⟨he, hxy⟩
          clear hxy hE
          go_wp2
          go_region_held3 (fun w' => w'.cell? ⟨b1, o1 + j, none⟩ = some (.int .i64 x) ∧ w'.cell? ⟨b2, o2 + j, none⟩ = some (.int .i64 y)) (go_keep) (fail)
          go_wp2
          go_roundw
          case rel => exact ⟨j + 1, by omega, by go_num, hE2, hb.drew⟩
          case measure => simp [intOf]; omega
        · have hd : (x != y) = true := by simpa using hxy
          have hne : Hid (xs ≠ ys) := fun e => hxy (by have := hx.out; rw [e, hy.out] at this; exact (Option.some.inj this).symm)
          clear hxy hE
          go_wp2
          go_region_held3 (fun w' => w'.cell? ⟨b1, o1 + j, none⟩ = some (.int .i64 x) ∧ w'.cell? ⟨b2, o2 + j, none⟩ = some (.int .i64 y)) (go_keep) (fail)
          go_wp2
          go_ret
          exact ⟨by rw [eqB_f hne.out]; rfl, hb.drew⟩
      · have hfin : Hid (xs = ys) := by
          have h1 := he.out
          have hjl : j = xs.length := by omega
          rw [hjl, List.take_length] at h1
          rw [h1, hL.out, List.take_length]; rfl
        go_wp2
        go_ret
        exact ⟨by rw [eqB_t hfin.out]; rfl, hb⟩
  · have hl1 : ((xs.length : Int) == (ys.length : Int)) = false := by simp; omega
    have hl2 : ((xs.length : Int) != (ys.length : Int)) = true := by simp; omega
    have hne : Hid (xs ≠ ys) := fun e => hl (by rw [e])
    clear hl
    go_enter Try.func28, Try.ntmps28
    go_wp2
    go_ret
    exact ⟨by rw [eqB_f hne.out]; rfl, Below.refl _ _⟩
end Go.Proofs.Ytpigoegjoagbnaa
end
section
/- '==' and '!=' of structs as one Bool. No program is named here. -/
namespace Go.Sl
open Go Go.RowKit
section
variable {P : Program} {d : Nat} {xs ys : Array Value} {f : Field} {fs : List Field} {a b : Value} {r s : Bool} {w : World}

theorem eqFields_nil : (Op.eqFields d xs ys []).run P w = .ok true w := by simp [Op.eqFields]
theorem eqFields_cons (hn : (f.name == "_") = false) (ha : (Go.part f.type xs f.offset).run P w = .ok a w) (hb : (Go.part f.type ys f.offset).run P w = .ok b w)
    (he : (Op.equalIn d f.type a b).run P w = .ok r w) (hr : (Op.eqFields d xs ys fs).run P w = .ok s w) : (Op.eqFields d xs ys (f :: fs)).run P w = .ok (r && s) w := by
  have hn' : f.name ≠ "_" := by simpa using hn
  rw [Op.eqFields]
  simp only [if_pos hn', Sem.run_bind, ha, hb, he, Result.andThen_ok]
  cases r
  · simp
  · simpa using hr
theorem equalIn_struct {t : TypeId} {fs : Array Field} (hu : P.underlying t = some (.struct fs)) (hp : P.stoodInHeld t = false)
    (h : (Op.eqFields d xs ys fs.toList).run P w = .ok r w) : (Op.equalIn (d + 1) t (.agg xs) (.agg ys)).run P w = .ok r w := by
  have hf : P.fieldsOf t = fs := by simp [Program.fieldsOf, hu]
  rw [run_equalIn_struct (P := P) w d t xs ys (by rw [hf]; exact hu) hp, hf]
  exact h
theorem neq_struct {t : TypeId} (h : (Op.equalIn 10000 t (.agg xs) (.agg ys)).run P w = .ok r w) : (binOp .neq t (.agg xs) (.agg ys)).run P w = .ok (.bool (!r)) w := by
  rw [run_neq_struct, h]; rfl
theorem eql_struct {t : TypeId} (h : (Op.equalIn 10000 t (.agg xs) (.agg ys)).run P w = .ok r w) : (binOp .eql t (.agg xs) (.agg ys)).run P w = .ok (.bool r) w := by
  rw [run_eql_struct, h]; rfl
end
end Go.Sl
end
section
/- '==' and '!=' of api.Vintage. -/
namespace Go.Proofs.Ytpigoegjoagbnaa
open Go.RowKit Go.Sl
set_option maxHeartbeats 1000000
set_option maxRecDepth 100000
theorem equalIn_vint (d : Nat) (x0 y0 : Int) (x1 y1 : Int) (x2 y2 : Int) (w : World) : (Op.equalIn (d + 2) 34 (.agg #[.int .i64 x0, .int .i64 x1, .int .i64 x2]) (.agg #[.int .i64 y0, .int .i64 y1, .int .i64 y2])).run Try.prog w = .ok (x0 == y0 && (x1 == y1 && (x2 == y2 && (true)))) w := by
  refine equalIn_struct (d := d + 1) Try.underlying34 (by kernel_rfl) ?_
  refine eqFields_cons (by rfl) (by go_simp; rfl) (by go_simp; rfl) (by go_simp) ?_
  refine eqFields_cons (by rfl) (by go_simp; rfl) (by go_simp; rfl) (by go_simp) ?_
  refine eqFields_cons (by rfl) (by go_simp; rfl) (by go_simp; rfl) (by go_simp) ?_
  exact eqFields_nil
theorem eqc_vint (x y : STri) : (x.a == y.a && (x.b == y.b && (x.c == y.c && (true)))) = decide (x = y) := by
  rw [Bool.eq_iff_iff]; cases x; cases y; simp
theorem ne_vint (x y : STri) (w : World) : (binOp .neq 34 (.agg #[.int .i64 x.a, .int .i64 x.b, .int .i64 x.c]) (.agg #[.int .i64 y.a, .int .i64 y.b, .int .i64 y.c])).run Try.prog w = .ok (.bool (neB x y)) w := by
  have h := equalIn_vint 9998 x.a y.a x.b y.b x.c y.c w
  simp only [Nat.reduceAdd] at h
  rw [neq_struct h, eqc_vint]; rfl
theorem eq_vint (x y : STri) (w : World) : (binOp .eql 34 (.agg #[.int .i64 x.a, .int .i64 x.b, .int .i64 x.c]) (.agg #[.int .i64 y.a, .int .i64 y.b, .int .i64 y.c])).run Try.prog w = .ok (.bool (eqB x y)) w := by
  have h := equalIn_vint 9998 x.a y.a x.b y.b x.c y.c w
  simp only [Nat.reduceAdd] at h
  rw [eql_struct h, eqc_vint]; rfl
end Go.Proofs.Ytpigoegjoagbnaa
end
section
/- keep.Same over api.Vintage: the same things? -/
namespace Go.Proofs.Ytpigoegjoagbnaa
open Go.RowKit Go.Sl
set_option maxHeartbeats 1000000
set_option maxRecDepth 100000
theorem same_vint (A B : Option Addr) (ca cb : Nat) (xs ys : List STri) (h k : Hp) (w : World) (hs : h.sub w) (ks : k.sub w) (sx : Sl kTri h A ca xs) (sy : Sl kTri k B cb ys) :
    Calls Try.prog 17 #[.slice A xs.length ca, .slice B ys.length cb] w fun e w' => e = .returned (.bool (eqB xs ys)) ∧ Below w.heap.size w w' := by
  have m1 := sx.small
  have m2 := sy.small
  by_cases hl : xs.length = ys.length
  · have hl1 : ((xs.length : Int) == (ys.length : Int)) = true := by simp [hl]
    have hl2 : ((xs.length : Int) != (ys.length : Int)) = false := by simp [hl]
    have hL := Lib.hid hl
    clear hl
    go_enter Try.func17, Try.ntmps17
    go_wp2
    clear hl1 hl2
    go_loopw [5] (fun i wr => ∃ j : Nat, j ≤ xs.length ∧ i = .int .i64 j ∧ Hid (xs.take j = ys.take j) ∧ Below w.heap.size w wr) (fun i _ => xs.length - (intOf i).toNat)
    case atStart => exact ⟨0, by omega, rfl, rfl, Below.refl _ _⟩
    case round =>
      obtain ⟨j, hj, rfl, he, hb⟩ := hrel
      by_cases hlt : j < xs.length
      · have hlt2 : j < ys.length := by have := hL.out; omega
        obtain ⟨x, hx⟩ := some_of_lt hlt
        obtain ⟨y, hy⟩ := some_of_lt hlt2
        obtain ⟨b1, o1, rfl, c1, c2, c3⟩ := sx.tri (hs.of_below hb) hx
        obtain ⟨b2, o2, rfl, d1, d2, d3⟩ := sy.tri (ks.of_below hb) hy
        have hn := ne_vint x y
        have i1 : (0 : Int) ≤ (j : Int) := by omega
        have i2 : (j : Int) < (xs.length : Int) := by omega
        have i3 : (j : Int) < (ys.length : Int) := by omega
        have hE := take_both hx hy
        by_cases hxy : x = y
        · have hd := neB_f hxy
          have hE2 := hE.2 ⟨he, hxy⟩
          clear hxy hE
          go_wp2
          go_region_held3 (fun w' => w'.cell? ⟨b1, o1 + j * 3, none⟩ = some (.int .i64 x.a) ∧ w'.cell? ⟨b1, o1 + j * 3 + 1, none⟩ = some (.int .i64 x.b) ∧ w'.cell? ⟨b1, o1 + j * 3 + 2, none⟩ = some (.int .i64 x.c) ∧ w'.cell? ⟨b2, o2 + j * 3, none⟩ = some (.int .i64 y.a) ∧ w'.cell? ⟨b2, o2 + j * 3 + 1, none⟩ = some (.int .i64 y.b) ∧ w'.cell? ⟨b2, o2 + j * 3 + 2, none⟩ = some (.int .i64 y.c)) (go_keep) (fail)
          go_wp2
          go_roundw
          case rel => exact ⟨j + 1, by omega, by go_num, hE2, hb.drew⟩
          case measure => simp [intOf]; omega
        · have hd := neB_t hxy
          have hne : Hid (xs ≠ ys) := fun e => hxy (by have := hx.out; rw [e, hy.out] at this; exact (Option.some.inj this).symm)
          clear hxy hE
          go_wp2
          go_region_held3 (fun w' => w'.cell? ⟨b1, o1 + j * 3, none⟩ = some (.int .i64 x.a) ∧ w'.cell? ⟨b1, o1 + j * 3 + 1, none⟩ = some (.int .i64 x.b) ∧ w'.cell? ⟨b1, o1 + j * 3 + 2, none⟩ = some (.int .i64 x.c) ∧ w'.cell? ⟨b2, o2 + j * 3, none⟩ = some (.int .i64 y.a) ∧ w'.cell? ⟨b2, o2 + j * 3 + 1, none⟩ = some (.int .i64 y.b) ∧ w'.cell? ⟨b2, o2 + j * 3 + 2, none⟩ = some (.int .i64 y.c)) (go_keep) (fail)
          go_wp2
          go_ret
          exact ⟨by rw [eqB_f hne.out]; rfl, hb.drew⟩
      · have hfin : Hid (xs = ys) := by
          have h1 := he.out
          have hjl : j = xs.length := by omega
          rw [hjl, List.take_length] at h1
          rw [h1, hL.out, List.take_length]; rfl
        go_wp2
        go_ret
        exact ⟨by rw [eqB_t hfin.out]; rfl, hb⟩
  · have hl1 : ((xs.length : Int) == (ys.length : Int)) = false := by simp; omega
    have hl2 : ((xs.length : Int) != (ys.length : Int)) = true := by simp; omega
    have hne : Hid (xs ≠ ys) := fun e => hl (by rw [e])
    clear hl
    go_enter Try.func17, Try.ntmps17
    go_wp2
    go_ret
    exact ⟨by rw [eqB_f hne.out]; rfl, Below.refl _ _⟩
end Go.Proofs.Ytpigoegjoagbnaa
end
