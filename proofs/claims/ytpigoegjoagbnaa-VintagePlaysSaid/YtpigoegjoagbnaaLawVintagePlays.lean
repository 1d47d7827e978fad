/- The law VintagePlays: for every input it returns true, and its arguments read behind the call as before it. No conditions. -/
import Derived.Test.YtpigoegjoagbnaaPk7
import Derived.OwnWalk
import Derived.Deep.DeepCutAuto
import Derived.Deep.CutBlock
import Derived.StillTailTactics
import Derived.BigQuiet
set_option linter.all false
section
/- keep.Copy and keep.Cut over whole numbers. -/
namespace Go.Proofs.Ytpigoegjoagbnaa
open Go.RowKit Go.Sl
set_option maxHeartbeats 1000000
set_option maxRecDepth 100000
theorem copyInt_calls (A : Option Addr) (ca : Nat) (xs : List Int) (n : Nat) (hn : xs.length = n) (h : Hp) (w : World) (hs : h.sub w) (sx : Sl kInt h A ca xs) (hl : xs.length ≤ 100000000) :
    Calls Try.prog 26 #[.slice A n ca] w fun e w' => ∃ C cap h', e = .returned (.slice C n cap) ∧ Ow kInt h' C cap xs ∧ Upd Hp.none h' w w' := by
  subst hn
  go_enter Try.func26, Try.ntmps26
  go_wp2_with (at_builtin; refine wpList_clone (B := none) Try.underlying26 info_int (by rfl) (by rfl) rfl xs.length ca (by rfl) (by rfl) rfl kInt_flat sx hs (by omega) (by omega) ?_; intro C' cap' w1 h1 ho1 hu1)
  go_ret
  exact ⟨C', cap', h1, rfl, ho1, hu1⟩
theorem cutInt_calls (A : Option Addr) (ca : Nat) (xs : List Int) (n : Int) (h : Hp) (w : World) (hs : h.sub w) (sx : Sl kInt h A ca xs) (hn : 0 ≤ n) (hn2 : n ≤ 100000000) :
    Calls Try.prog 25 #[.slice A xs.length ca, .int .i64 n] w fun e w' => ∃ C cap h' ys, e = .returned (.slice C ys.length cap) ∧ Ow kInt h' C cap ys ∧ (∀ y ∈ ys, y ∈ xs) ∧ (ys.length : Int) ≤ n ∧ Upd Hp.none h' w w' := by
  have m1 := sx.small
  have lc := sx.le
  have lcm := sx.max
  unfold maxLen at lcm
  obtain ⟨k, rfl⟩ := Int.eq_ofNat_of_zero_le hn
  by_cases hk : xs.length ≤ k
  · have b1 : (xs.length : Int) ≤ (k : Int) := by omega
    have CI := fun W (ks : h.sub W) => copyInt_calls A ca xs xs.length rfl h W ks sx (by omega)
    have hmn : min (xs.length : Int) (k : Int) = (xs.length : Int) := by omega
    have b2 : (xs.length : Int) ≤ (ca : Int) := by omega
    go_enter Try.func25, Try.ntmps25
    go_wp2_with fail
    refine (CI _ hs).mono ?_
    rintro e w2 ⟨C, cap, h2, rfl, o2, u2⟩
    go_wp2
    go_ret
    exact ⟨C, cap, h2, xs, rfl, o2, fun y hy => hy, b1, u2⟩
  · have b1 : (k : Int) ≤ (xs.length : Int) := by omega
    have b2 : (k : Int) ≤ (ca : Int) := by omega
    have b3 : (k : Int) < (xs.length : Int) := by omega
    have HL : Hid ((xs.take k).length = k) := by unfold Hid; rw [List.length_take]; omega
    have CI := fun W (ks : h.sub W) => copyInt_calls A ca (xs.take k) k HL.out h W ks (sx.take k) (by rw [HL.out]; omega)
    have hmn : min (xs.length : Int) (k : Int) = (k : Int) := by omega
    go_enter Try.func25, Try.ntmps25
    go_wp2_with fail
    refine (CI _ hs).mono ?_
    rintro e w2 ⟨C, cap, h2, rfl, o2, u2⟩
    go_wp2
    go_ret
    exact ⟨C, cap, h2, xs.take k, by rw [HL.out]; rfl, o2, fun y hy => List.mem_of_mem_take hy, by rw [HL.out]; omega, u2⟩
end Go.Proofs.Ytpigoegjoagbnaa
end
section
/- The walk of law13.VintagePlays. -/
namespace Go.Proofs.Ytpigoegjoagbnaa
open Go.RowKit Go.Sl
set_option maxHeartbeats 2000000
set_option maxRecDepth 100000
set_option linter.unusedSimpArgs false
theorem vintPlays_calls (A : Option Addr) (ca : Nat) (xs : List SVA) (k1 : Hp) (w : World) (hs1 : k1.sub w) (s1 : Sl kVA k1 A ca xs) (hz1 : ∀ x ∈ xs, (∀ j, j < 4 → I64 (x.f j)) ∧ ∀ u ∈ x.us, I64 u) :
    Calls Try.prog 7 #[.slice A xs.length ca] w fun e w' => e = .returned (.bool true) ∧ Below w.heap.size w w' := by
  have E0 := Env.start w
  have m1 := s1.small
  have HZ1 := Lib.hid hz1
  clear hz1
  go_enter Try.func7, Try.ntmps7
  go_wp2_with fail
  refine (Vnt.new E0).mono ?_
  rintro e w1 ⟨h1, c1, rfl, S1, E1⟩
  try simp at E1
  go_upto_region 2 with fail
  have E2 := E1.alloc (.cells #[.slice none 0 0] 46)
  simp at E2
  have P1 := Los.box w1.heap.size
  generalize hb2 : w1.heap.size = b2 at *
  go_wp2_with fail
  go_loopw [5] (fun i wr => ∃ (j : Nat) (h hr : Hp) (l : List STri), j ≤ xs.length ∧ j ≤ 24 ∧ i = .int .i64 j ∧ Vnt h c1 l ∧ Los hr b2 l ∧ Env w wr [h, hr]) (fun i _ => 24 - (intOf i).toNat)
  case atStart => exact ⟨0, h1, _, [], by omega, by omega, rfl, S1, P1, E2⟩
  case round =>
    clear S1 P1 E1 E2 hb2
    obtain ⟨j, h, hr, l, hj, hj2, rfl, S, P, E⟩ := hrel
    by_cases hlt : j < xs.length ∧ j < 24
    · obtain ⟨hlt, hlt2⟩ := hlt
      obtain ⟨x, hx⟩ := some_of_lt hlt
      obtain ⟨ba, oa, U, cu, rfl, su, d0, d1, d2, d3, d4⟩ := s1.va (hs1.of_below E.low) hx
      have gl := S.good
      obtain ⟨z1, z2⟩ := HZ1.out x (List.mem_of_getElem? hx.out)
      have hz2 := Lib.hid z2
      have z13 := z1 3 (by omega)
      clear z1 z2
      have i1 : (0 : Int) ≤ (j : Int) := by omega
      have i2 : (j : Int) < (xs.length : Int) := by omega
      have i3 : (j : Int) < 24 := by omega
      have p1 := within_lo (x.f 1) (n := 8) (by omega)
      have p2 := within_hi (x.f 1) (n := 8) (by omega)
      have p3 := within_lo (x.f 2) (n := 6) (by omega)
      have p4 := within_hi (x.f 2) (n := 6) (by omega)
      have p5 := within_lo (x.f 0) (n := 7) (by omega)
      have p6 := within_hi (x.f 0) (n := 7) (by omega)
      have p7 := within_lo (x.f 3) (n := 2) (by omega)
      have p8 := within_hi (x.f 3) (n := 2) (by omega)
      have ab := amount_bd (x.f 3) ⟨z13.1, z13.2⟩
      have W8 := fun W => within_calls (x.f 1) 8 W (by omega) (by omega)
      have W6 := fun W => within_calls (x.f 2) 6 W (by omega) (by omega)
      have W7 := fun W => within_calls (x.f 0) 7 W (by omega) (by omega)
      have W12 := fun W => within_calls (x.f 2) 12 W (by omega) (by omega)
      have W2 := fun W => within_calls (x.f 3) 2 W (by omega) (by omega)
      have AC := fun W => amount_calls (x.f 3) ⟨z13.1, z13.2⟩ W
      generalize within (x.f 1) 8 = o0 at *
      generalize within (x.f 2) 6 = li at *
      generalize within (x.f 0) 7 = r0 at *
      generalize within (x.f 2) 12 = yy at *
      generalize within (x.f 3) 2 = v2 at *
      generalize amount (x.f 3) = am at *
      have hwq : IntKind.i64.wrap (o0 + li) = o0 + li := by rw [IntKind.wrap_i64]; omega
      obtain ⟨mx, hmx⟩ : ∃ mx, max am 1 = mx := ⟨_, rfl⟩
      have hif : (if am ≤ 1 then (1 : Int) else am) = mx := by omega
      go_upto_region 8 with fail
      replace E := E.alloc (.cells #[.int .i64 (x.f 0), .int .i64 (x.f 1), .int .i64 (x.f 2), .int .i64 (x.f 3), .slice U x.us.length cu] 28)
      simp at E
      obtain ⟨W, hW⟩ : ∃ W : World, W = wr.alloc (.cells #[.int .i64 (x.f 0), .int .i64 (x.f 1), .int .i64 (x.f 2), .int .i64 (x.f 3), .slice U x.us.length cu] 28) := ⟨_, rfl⟩
      rw [← hW] at E
      rw [← hW]
      clear hW
      have q0 := E.cell 2 rfl 0 rfl
      have q1 := E.cell 2 rfl 1 rfl
      have q2 := E.cell 2 rfl 2 rfl
      have q3 := E.cell 2 rfl 3 rfl
      have q4 := E.cell 2 rfl 4 rfl
      generalize wr.heap.size = bw at *
      clear d0 d1 d2 d3 d4
      refine wp_region_held_drew (S := (fun V => V.cell? ⟨bw, 1, none⟩ = some (.int .i64 (x.f 1)) ∧ V.cell? ⟨bw, 2, none⟩ = some (.int .i64 (x.f 2)) ∧ V.cell? ⟨bw, 3, none⟩ = some (.int .i64 (x.f 3)))) (by kernel_rfl) ?_ (fun hHeld => ?_)
      · (try dsimp only)
        first | (go_keep)
      refine take_on (i := 0) (by (simp only [List.getElem?_toArray, List.getElem?_cons_succ, List.getElem?_cons_zero]) <;> rfl) (by kernel_rfl) (by kernel_rfl) (by kernel_rfl) (by intro _ _ _ _ h; exact h) (by rfl) (by assumption) ?_
      apply Exists.intro
      refine ⟨?_, ?_⟩
      · intro W0 hSw
        try dsimp only at hSw
        go_simp
        try (with_reducible rfl)
      try simp only [Act.put, List.setIfInBounds_toArray, List.set_cons_zero, List.set_cons_succ]
      refine take_on (i := 1) (by (simp only [List.getElem?_toArray, List.getElem?_cons_succ, List.getElem?_cons_zero]) <;> rfl) (by kernel_rfl) (by kernel_rfl) (by kernel_rfl) (by intro _ _ _ _ h; exact h) (by rfl) (by assumption) ?_
      apply Exists.intro
      refine ⟨?_, ?_⟩
      · intro W0 hSw
        try dsimp only at hSw
        go_simp
        try (with_reducible rfl)
      try simp only [Act.put, List.setIfInBounds_toArray, List.set_cons_zero, List.set_cons_succ]
      refine take_on (i := 3) (by (simp only [List.getElem?_toArray, List.getElem?_cons_succ, List.getElem?_cons_zero]) <;> rfl) (by kernel_rfl) (by kernel_rfl) (by kernel_rfl) (by intro _ _ _ _ h; exact h) (by rfl) (by assumption) ?_
      apply Exists.intro
      refine ⟨?_, ?_⟩
      · intro W0 hSw
        try dsimp only at hSw
        go_simp
        try (with_reducible rfl)
      try simp only [Act.put, List.setIfInBounds_toArray, List.set_cons_zero, List.set_cons_succ]
      refine take_on (i := 4) (by (simp only [List.getElem?_toArray, List.getElem?_cons_succ, List.getElem?_cons_zero]) <;> rfl) (by kernel_rfl) (by kernel_rfl) (by kernel_rfl) (by intro _ _ _ _ h; exact h) (by rfl) (by assumption) ?_
      apply Exists.intro
      refine ⟨?_, ?_⟩
      · intro W0 hSw
        try dsimp only at hSw
        go_simp
        try (with_reducible rfl)
      try simp only [Act.put, List.setIfInBounds_toArray, List.set_cons_zero, List.set_cons_succ]
      refine take_on (i := 6) (by (simp only [List.getElem?_toArray, List.getElem?_cons_succ, List.getElem?_cons_zero]) <;> rfl) (by kernel_rfl) (by kernel_rfl) (by kernel_rfl) (by intro _ _ _ _ h; exact h) (by rfl) (by assumption) ?_
      apply Exists.intro
      refine ⟨?_, ?_⟩
      · intro W0 hSw
        try dsimp only at hSw
        go_simp
        try (with_reducible rfl)
      try simp only [Act.put, List.setIfInBounds_toArray, List.set_cons_zero, List.set_cons_succ]
      refine take_on (i := 7) (by (simp only [List.getElem?_toArray, List.getElem?_cons_succ, List.getElem?_cons_zero]) <;> rfl) (by kernel_rfl) (by kernel_rfl) (by kernel_rfl) (by intro _ _ _ _ h; exact h) (by rfl) (by assumption) ?_
      apply Exists.intro
      refine ⟨?_, ?_⟩
      · intro W0 hSw
        try dsimp only at hSw
        go_simp
        try (with_reducible rfl)
      try simp only [Act.put, List.setIfInBounds_toArray, List.set_cons_zero, List.set_cons_succ]
      refine take_on (i := 10) (by (simp only [List.getElem?_toArray, List.getElem?_cons_succ, List.getElem?_cons_zero]) <;> rfl) (by kernel_rfl) (by kernel_rfl) (by kernel_rfl) (by intro _ _ _ _ h; exact h) (by rfl) (by assumption) ?_
      apply Exists.intro
      refine ⟨?_, ?_⟩
      · intro W0 hSw
        try dsimp only at hSw
        go_simp
        try (with_reducible rfl)
      try simp only [Act.put, List.setIfInBounds_toArray, List.set_cons_zero, List.set_cons_succ]
      refine take_on (i := 11) (by (simp only [List.getElem?_toArray, List.getElem?_cons_succ, List.getElem?_cons_zero]) <;> rfl) (by kernel_rfl) (by kernel_rfl) (by kernel_rfl) (by intro _ _ _ _ h; exact h) (by rfl) (by assumption) ?_
      apply Exists.intro
      refine ⟨?_, ?_⟩
      · intro W0 hSw
        try dsimp only at hSw
        go_simp
        try (with_reducible rfl)
      try simp only [Act.put, List.setIfInBounds_toArray, List.set_cons_zero, List.set_cons_succ]
      refine wpAnyH_ready (rs := [2]) (by kernel_rfl) (by simp) ?_
      refine AllReadyH.cons (by (simp only [List.getElem?_toArray, List.getElem?_cons_succ, List.getElem?_cons_zero]) <;> rfl) (fun K hK => ?_) AllReadyH.nil
      go_simp
      refine (W8 _).mono ?_
      rintro e w' ⟨rfl, rfl⟩
      go_wp2_with fail
      refine hK.out _ _ ?_ (fun hHeld => ?_)
      · (try dsimp only)
        first | (exact hkeep) | (go_keep)
      clear hK K
      try simp only [Act.put, List.setIfInBounds_toArray, List.set_cons_zero, List.set_cons_succ]
      refine wpAnyH_ready (rs := [5]) (by kernel_rfl) (by simp) ?_
      refine AllReadyH.cons (by (simp only [List.getElem?_toArray, List.getElem?_cons_succ, List.getElem?_cons_zero]) <;> rfl) (fun K hK => ?_) AllReadyH.nil
      go_simp
      refine (W8 _).mono ?_
      rintro e w' ⟨rfl, rfl⟩
      go_wp2_with fail
      refine hK.out _ _ ?_ (fun hHeld => ?_)
      · (try dsimp only)
        first | (exact hkeep) | (go_keep)
      clear hK K
      try simp only [Act.put, List.setIfInBounds_toArray, List.set_cons_zero, List.set_cons_succ]
      refine wpAnyH_ready (rs := [8]) (by kernel_rfl) (by simp) ?_
      refine AllReadyH.cons (by (simp only [List.getElem?_toArray, List.getElem?_cons_succ, List.getElem?_cons_zero]) <;> rfl) (fun K hK => ?_) AllReadyH.nil
      go_simp
      refine (W6 _).mono ?_
      rintro e w' ⟨rfl, rfl⟩
      go_wp2_with fail
      refine hK.out _ _ ?_ (fun hHeld => ?_)
      · (try dsimp only)
        first | (exact hkeep) | (go_keep)
      clear hK K
      try simp only [Act.put, List.setIfInBounds_toArray, List.set_cons_zero, List.set_cons_succ]
      refine take_on (i := 9) (by (simp only [List.getElem?_toArray, List.getElem?_cons_succ, List.getElem?_cons_zero]) <;> rfl) (by kernel_rfl) (by kernel_rfl) (by kernel_rfl) (by intro _ _ _ _ h; exact h) (by rfl) (by assumption) ?_
      apply Exists.intro
      refine ⟨?_, ?_⟩
      · intro W0 hSw
        try dsimp only at hSw
        go_simp
        try (with_reducible rfl)
      try simp only [Act.put, List.setIfInBounds_toArray, List.set_cons_zero, List.set_cons_succ]
      refine wpAnyH_ready (rs := [12]) (by kernel_rfl) (by simp) ?_
      refine AllReadyH.cons (by (simp only [List.getElem?_toArray, List.getElem?_cons_succ, List.getElem?_cons_zero]) <;> rfl) (fun K hK => ?_) AllReadyH.nil
      go_simp
      refine (AC _).mono ?_
      rintro e w' ⟨rfl, rfl⟩
      go_wp2_with fail
      refine hK.out _ _ ?_ (fun hHeld => ?_)
      · (try dsimp only)
        first | (exact hkeep) | (go_keep)
      clear hK K
      try simp only [Act.put, List.setIfInBounds_toArray, List.set_cons_zero, List.set_cons_succ]
      refine take_on (i := 13) (by (simp only [List.getElem?_toArray, List.getElem?_cons_succ, List.getElem?_cons_zero]) <;> rfl) (by kernel_rfl) (by kernel_rfl) (by kernel_rfl) (by intro _ _ _ _ h; exact h) (by rfl) (by assumption) ?_
      apply Exists.intro
      refine ⟨?_, ?_⟩
      · intro W0 hSw
        try dsimp only at hSw
        go_simp
        try (with_reducible rfl)
      try simp only [Act.put, List.setIfInBounds_toArray, List.set_cons_zero, List.set_cons_succ]
      refine take_on (i := 14) (by (simp only [List.getElem?_toArray, List.getElem?_cons_succ, List.getElem?_cons_zero]) <;> rfl) (by kernel_rfl) (by kernel_rfl) (by kernel_rfl) (by intro _ _ _ _ h; exact h) (by rfl) (by assumption) ?_
      apply Exists.intro
      refine ⟨?_, ?_⟩
      · intro W0 hSw
        try dsimp only at hSw
        go_simp
        try (with_reducible rfl)
      try simp only [Act.put, List.setIfInBounds_toArray, List.set_cons_zero, List.set_cons_succ]
      refine take_on (i := 15) (by (simp only [List.getElem?_toArray, List.getElem?_cons_succ, List.getElem?_cons_zero]) <;> rfl) (by kernel_rfl) (by kernel_rfl) (by kernel_rfl) (by intro _ _ _ _ h; exact h) (by rfl) (by assumption) ?_
      apply Exists.intro
      refine ⟨?_, ?_⟩
      · intro W0 hSw
        try dsimp only at hSw
        go_simp
        try (with_reducible rfl)
      try simp only [Act.put, List.setIfInBounds_toArray, List.set_cons_zero, List.set_cons_succ]
      refine take_on (i := 16) (by (simp only [List.getElem?_toArray, List.getElem?_cons_succ, List.getElem?_cons_zero]) <;> rfl) (by kernel_rfl) (by kernel_rfl) (by kernel_rfl) (by intro _ _ _ _ h; exact h) (by rfl) (by assumption) ?_
      apply Exists.intro
      refine ⟨?_, ?_⟩
      · intro W0 hSw
        try dsimp only at hSw
        go_simp
        try (with_reducible rfl)
      try simp only [Act.put, List.setIfInBounds_toArray, List.set_cons_zero, List.set_cons_succ]
      refine wpAnyH_done (by kernel_rfl) ?_ _
      clear W8 W6 AC hmx hif hwq hHeld
      replace E := E.drew
      obtain ⟨V, hV⟩ : ∃ V, V = W.drew := ⟨_, rfl⟩
      rw [← hV] at E
      rw [← hV]
      clear hV q0 q1 q2 q3 q4
      have q0 := E.cell 2 rfl 0 rfl
      have q1 := E.cell 2 rfl 1 rfl
      have q2 := E.cell 2 rfl 2 rfl
      have q3 := E.cell 2 rfl 3 rfl
      have q4 := E.cell 2 rfl 4 rfl
      have qf := fun k => E.free 2 rfl k
      go_upto_if 50 with fail
      go_cut [7, 8, 9] (fun a b c wx => ∃ (o e n : Int), a = .int .i64 o ∧ b = .int .i64 e ∧ c = .int .i64 n ∧ Env w wx [h, hr, Hp.box bw [.int .i64 (x.f 0), .int .i64 (x.f 1), .int .i64 (x.f 2), .int .i64 (x.f 3), .slice U x.us.length cu] 28])
      case first =>
        by_cases h10 : (x.f 0).tmod 11 = 10
        · have t10 : ((x.f 0).tmod 11 == 10) = true := by simpa using h10
          clear h10
          go_upto_region 10 with fail
          go_quiet (fail)
          have E6 := E.drewN nq
          go_wp2_with fail
          go_meet
          exact ⟨_, _, _, rfl, rfl, rfl, E6⟩
        · have t10 : ((x.f 0).tmod 11 == 10) = false := by simpa using h10
          clear h10
          go_wp2_with fail
          go_meet
          exact ⟨_, _, _, rfl, rfl, rfl, E⟩
      case rest =>
        clear E q0 q1 q2 q3 q4 qf
        obtain ⟨o, e, n, rfl, rfl, rfl, E⟩ := hcut
        have q0 := E.cell 2 rfl 0 rfl
        have q1 := E.cell 2 rfl 1 rfl
        have q2 := E.cell 2 rfl 2 rfl
        have q3 := E.cell 2 rfl 3 rfl
        have q4 := E.cell 2 rfl 4 rfl
        have qf := fun k => E.free 2 rfl k
        go_upto_if 58 with fail
        go_cut [10] (fun a wx => Env w wx [h, hr, Hp.box bw [.int .i64 (x.f 0), .int .i64 (x.f 1), .int .i64 (x.f 2), .int .i64 (x.f 3), .slice U x.us.length cu] 28])
        case first =>
          by_cases h9 : j = 9
          · have t9 : ((j : Int) == 9) = true := by simp [h9]
            clear h9
            go_wp2_with fail
            refine (Vnt.clone S E 0 rfl).mono ?_
            rintro e5 w5 ⟨h5, b5, rfl, S5, E5⟩
            simp at E5
            go_wp2_with fail
            refine (Vnt.add S5 E5 3 rfl 1 2 5 ⟨rfl, rfl⟩).mono ?_
            rintro e6 w6 ⟨h6, rfl, S6, E6⟩
            simp at E6
            go_wp2_with fail
            refine (Vnt.exp S6 E6 3 rfl 50 ⟨rfl, rfl⟩).mono ?_
            rintro e7 w7 ⟨h7, rfl, S7, E7⟩
            have E8 := E7.drop 3
            simp at E8
            go_wp2_with fail
            go_meet
            exact E8
          · have t9 : ((j : Int) == 9) = false := by simp; omega
            clear h9
            go_wp2_with fail
            go_meet
            exact E
        case rest =>
          clear E q0 q1 q2 q3 q4 qf
          have E := hcut
          clear hcut
          have q0 := E.cell 2 rfl 0 rfl
          have q1 := E.cell 2 rfl 1 rfl
          have q2 := E.cell 2 rfl 2 rfl
          have q3 := E.cell 2 rfl 3 rfl
          have q4 := E.cell 2 rfl 4 rfl
          have qf := fun k => E.free 2 rfl k
          go_wp2_with fail
          refine (W7 _).mono ?_
          rintro e5 w5 ⟨rfl, rfl⟩
          go_upto_block 2 with fail
          go_cut [11] (fun a wx => ∃ (h9 hr9 : Hp) (l9 : List STri), Vnt h9 c1 l9 ∧ Los hr9 b2 l9 ∧ Env w wx [h9, hr9, Hp.box bw [.int .i64 (x.f 0), .int .i64 (x.f 1), .int .i64 (x.f 2), .int .i64 (x.f 3), .slice U x.us.length cu] 28])
          case first =>
            rcases (show (r0 = 0 ∨ r0 = 1 ∨ r0 = 2 ∨ r0 = 3) ∨ r0 = 4 ∨ 5 ≤ r0 by omega) with (rfl | rfl | rfl | rfl) | rfl | h5
            case inl.inl =>
              as_aux_lemma =>
                go_wp2_with fail
                refine (Vnt.add S E 0 rfl o e n ⟨rfl, rfl⟩).mono ?_
                rintro e5 w5 ⟨h5, rfl, S5, E5⟩
                simp only [List.set_cons_zero] at E5
                go_wp2_with fail
                refine (Los.add P E5 1 rfl o e n ⟨rfl, rfl⟩).mono ?_
                rintro e6 w6 ⟨h6, rfl, S6, E6⟩
                simp only [List.set_cons_zero, List.set_cons_succ] at E6
                go_wp2_with fail
                go_meet
                exact ⟨_, _, _, S5, S6, E6⟩
            case inl.inr.inl =>
              as_aux_lemma =>
                go_wp2_with fail
                refine (Vnt.add S E 0 rfl o e n ⟨rfl, rfl⟩).mono ?_
                rintro e5 w5 ⟨h5, rfl, S5, E5⟩
                simp only [List.set_cons_zero] at E5
                go_wp2_with fail
                refine (Los.add P E5 1 rfl o e n ⟨rfl, rfl⟩).mono ?_
                rintro e6 w6 ⟨h6, rfl, S6, E6⟩
                simp only [List.set_cons_zero, List.set_cons_succ] at E6
                go_wp2_with fail
                go_meet
                exact ⟨_, _, _, S5, S6, E6⟩
            case inl.inr.inr.inl =>
              as_aux_lemma =>
                go_wp2_with fail
                refine (Vnt.add S E 0 rfl o e n ⟨rfl, rfl⟩).mono ?_
                rintro e5 w5 ⟨h5, rfl, S5, E5⟩
                simp only [List.set_cons_zero] at E5
                go_wp2_with fail
                refine (Los.add P E5 1 rfl o e n ⟨rfl, rfl⟩).mono ?_
                rintro e6 w6 ⟨h6, rfl, S6, E6⟩
                simp only [List.set_cons_zero, List.set_cons_succ] at E6
                go_wp2_with fail
                go_meet
                exact ⟨_, _, _, S5, S6, E6⟩
            case inl.inr.inr.inr =>
              as_aux_lemma =>
                go_wp2_with fail
                refine (Vnt.add S E 0 rfl o e n ⟨rfl, rfl⟩).mono ?_
                rintro e5 w5 ⟨h5, rfl, S5, E5⟩
                simp only [List.set_cons_zero] at E5
                go_wp2_with fail
                refine (Los.add P E5 1 rfl o e n ⟨rfl, rfl⟩).mono ?_
                rintro e6 w6 ⟨h6, rfl, S6, E6⟩
                simp only [List.set_cons_zero, List.set_cons_succ] at E6
                go_wp2_with fail
                go_meet
                exact ⟨_, _, _, S5, S6, E6⟩
            case inr.inl =>
              as_aux_lemma =>
                go_upto_region 35 with fail
                have d2 := E.cell 2 rfl 2 rfl
                refine wp_region_held_drew (S := (fun V => V.cell? ⟨bw, 2, none⟩ = some (.int .i64 (x.f 2)))) (by kernel_rfl) ?_ (fun hHeld => ?_)
                · (try dsimp only)
                  first | (go_keep)
                refine take_on (i := 0) (by (simp only [List.getElem?_toArray, List.getElem?_cons_succ, List.getElem?_cons_zero]) <;> rfl) (by kernel_rfl) (by kernel_rfl) (by kernel_rfl) (by intro _ _ _ _ h; exact h) (by rfl) (by assumption) ?_
                apply Exists.intro
                refine ⟨?_, ?_⟩
                · intro W0 hSw
                  try dsimp only at hSw
                  go_simp
                  try (with_reducible rfl)
                try simp only [Act.put, List.setIfInBounds_toArray, List.set_cons_zero, List.set_cons_succ]
                refine take_on (i := 1) (by (simp only [List.getElem?_toArray, List.getElem?_cons_succ, List.getElem?_cons_zero]) <;> rfl) (by kernel_rfl) (by kernel_rfl) (by kernel_rfl) (by intro _ _ _ _ h; exact h) (by rfl) (by assumption) ?_
                apply Exists.intro
                refine ⟨?_, ?_⟩
                · intro W0 hSw
                  try dsimp only at hSw
                  go_simp
                  try (with_reducible rfl)
                try simp only [Act.put, List.setIfInBounds_toArray, List.set_cons_zero, List.set_cons_succ]
                refine take_on (i := 2) (by (simp only [List.getElem?_toArray, List.getElem?_cons_succ, List.getElem?_cons_zero]) <;> rfl) (by kernel_rfl) (by kernel_rfl) (by kernel_rfl) (by intro _ _ _ _ h; exact h) (by rfl) (by assumption) ?_
                apply Exists.intro
                refine ⟨?_, ?_⟩
                · intro W0 hSw
                  try dsimp only at hSw
                  go_simp
                  try (with_reducible rfl)
                try simp only [Act.put, List.setIfInBounds_toArray, List.set_cons_zero, List.set_cons_succ]
                refine take_on (i := 5) (by (simp only [List.getElem?_toArray, List.getElem?_cons_succ, List.getElem?_cons_zero]) <;> rfl) (by kernel_rfl) (by kernel_rfl) (by kernel_rfl) (by intro _ _ _ _ h; exact h) (by rfl) (by assumption) ?_
                apply Exists.intro
                refine ⟨?_, ?_⟩
                · intro W0 hSw
                  try dsimp only at hSw
                  go_simp
                  try (with_reducible rfl)
                try simp only [Act.put, List.setIfInBounds_toArray, List.set_cons_zero, List.set_cons_succ]
                refine take_on (i := 6) (by (simp only [List.getElem?_toArray, List.getElem?_cons_succ, List.getElem?_cons_zero]) <;> rfl) (by kernel_rfl) (by kernel_rfl) (by kernel_rfl) (by intro _ _ _ _ h; exact h) (by rfl) (by assumption) ?_
                apply Exists.intro
                refine ⟨?_, ?_⟩
                · intro W0 hSw
                  try dsimp only at hSw
                  go_simp
                  try (with_reducible rfl)
                try simp only [Act.put, List.setIfInBounds_toArray, List.set_cons_zero, List.set_cons_succ]
                refine take_on (i := 7) (by (simp only [List.getElem?_toArray, List.getElem?_cons_succ, List.getElem?_cons_zero]) <;> rfl) (by kernel_rfl) (by kernel_rfl) (by kernel_rfl) (by intro _ _ _ _ h; exact h) (by rfl) (by assumption) ?_
                apply Exists.intro
                refine ⟨?_, ?_⟩
                · intro W0 hSw
                  try dsimp only at hSw
                  go_simp
                  try (with_reducible rfl)
                try simp only [Act.put, List.setIfInBounds_toArray, List.set_cons_zero, List.set_cons_succ]
                refine wpAnyH_ready (rs := [3]) (by kernel_rfl) (by simp) ?_
                refine AllReadyH.cons (by (simp only [List.getElem?_toArray, List.getElem?_cons_succ, List.getElem?_cons_zero]) <;> rfl) (fun K hK => ?_) AllReadyH.nil
                go_simp
                refine (W12 _).mono ?_
                rintro e5 w' ⟨rfl, rfl⟩
                go_wp2_with fail
                refine hK.out _ _ ?_ (fun hHeld => ?_)
                · (try dsimp only)
                  first | (exact hkeep) | (go_keep)
                clear hK K
                try simp only [Act.put, List.setIfInBounds_toArray, List.set_cons_zero, List.set_cons_succ]
                refine wpAnyH_ready (rs := [4]) (by kernel_rfl) (by simp) ?_
                refine AllReadyH.cons (by (simp only [List.getElem?_toArray, List.getElem?_cons_succ, List.getElem?_cons_zero]) <;> rfl) (fun K hK => ?_) AllReadyH.nil
                go_simp
                refine (Vnt.exp S (by repeat (first | (with_reducible exact E) | (with_reducible apply Env.drew) | (with_reducible apply Env.drewN) | (with_reducible apply Env.alloc'))) 0 rfl yy ⟨rfl, rfl⟩).mono ?_
                rintro e5 w5 ⟨h5, rfl, S5, E5⟩
                simp only [List.set_cons_zero] at E5
                have hkeep := E5.cell 2 rfl 2 rfl
                go_wp2_with fail
                refine hK.out _ _ ?_ (fun hHeld => ?_)
                · (try dsimp only)
                  first | (exact hkeep) | (go_keep)
                clear hK K
                try simp only [Act.put, List.setIfInBounds_toArray, List.set_cons_zero, List.set_cons_succ]
                refine wpAnyH_ready (rs := [8]) (by kernel_rfl) (by simp) ?_
                refine AllReadyH.cons (by (simp only [List.getElem?_toArray, List.getElem?_cons_succ, List.getElem?_cons_zero]) <;> rfl) (fun K hK => ?_) AllReadyH.nil
                go_simp
                refine (W12 _).mono ?_
                rintro e6 w' ⟨rfl, rfl⟩
                have hkeep := E5.cell 2 rfl 2 rfl
                go_wp2_with fail
                refine hK.out _ _ ?_ (fun hHeld => ?_)
                · (try dsimp only)
                  first | (exact hkeep) | (go_keep)
                clear hK K
                try simp only [Act.put, List.setIfInBounds_toArray, List.set_cons_zero, List.set_cons_succ]
                refine wpAnyH_ready (rs := [9]) (by kernel_rfl) (by simp) ?_
                refine AllReadyH.cons (by (simp only [List.getElem?_toArray, List.getElem?_cons_succ, List.getElem?_cons_zero]) <;> rfl) (fun K hK => ?_) AllReadyH.nil
                go_simp
                refine (Los.exp P E5 1 rfl yy ⟨rfl, rfl⟩).mono ?_
                rintro e6 w6 ⟨h6, rfl, S6, E6⟩
                simp only [List.set_cons_zero, List.set_cons_succ] at E6
                have hkeep := E6.cell 2 rfl 2 rfl
                go_wp2_with fail
                refine hK.out _ _ ?_ (fun hHeld => ?_)
                · (try dsimp only)
                  first | (exact hkeep) | (go_keep)
                clear hK K
                try simp only [Act.put, List.setIfInBounds_toArray, List.set_cons_zero, List.set_cons_succ]
                refine take_on (i := 10) (by (simp only [List.getElem?_toArray, List.getElem?_cons_succ, List.getElem?_cons_zero]) <;> rfl) (by kernel_rfl) (by kernel_rfl) (by kernel_rfl) (by intro _ _ _ _ h; exact h) (by rfl) (by assumption) ?_
                apply Exists.intro
                refine ⟨?_, ?_⟩
                · intro W0 hSw
                  try dsimp only at hSw
                  go_simp
                  try (with_reducible rfl)
                try simp only [Act.put, List.setIfInBounds_toArray, List.set_cons_zero, List.set_cons_succ]
                refine wpAnyH_done (by kernel_rfl) ?_ _
                go_wp2_with fail
                go_meet
                exact ⟨_, _, _, S5, S6, E6⟩
            case inr.inr =>
              have t0 : (r0 == 0) = false := by simp; omega
              have t1 : (r0 == 1) = false := by simp; omega
              have t2 : (r0 == 2) = false := by simp; omega
              have t3 : (r0 == 3) = false := by simp; omega
              have t4 : (r0 == 4) = false := by simp; omega
              as_aux_lemma =>
                obtain ⟨cs2, hb2, A2, ca2, rfl, ow2⟩ := P.pt
                have sl2 := ow2.sl.mono (Hp.del_le hr b2)
                have KP : ∀ V L, Env w V L → L[1]? = some hr → V.cell? ⟨b2, 0, none⟩ = some (.slice A2 l.length ca2) := fun V L E i => by
                  rw [cell_of_row V b2 0 _ _ _ (E.sub 1 i _ _ hb2)]; rfl
                have kp := KP _ _ E rfl
                have d3 := E.cell 2 rfl 3 rfl
                have d4 := E.cell 2 rfl 4 rfl
                have hlen := gl.len
                have hwl : IntKind.i64.wrap ((l.length : Int) + v2) = (l.length : Int) + v2 := by rw [IntKind.wrap_i64]; omega
                have n1 : 0 ≤ (l.length : Int) + v2 := by omega
                have n2 : (l.length : Int) + v2 ≤ 100000000 := by omega
                go_upto_region 18 with fail
                refine wp_region_held_drew (S := (fun V => V.cell? ⟨bw, 3, none⟩ = some (.int .i64 (x.f 3)) ∧ V.cell? ⟨bw, 4, none⟩ = some (.slice U x.us.length cu) ∧ V.cell? ⟨b2, 0, none⟩ = some (.slice A2 l.length ca2))) (by kernel_rfl) ?_ (fun hHeld => ?_)
                · (try dsimp only)
                  first | (go_keep)
                refine take_on (i := 0) (by (simp only [List.getElem?_toArray, List.getElem?_cons_succ, List.getElem?_cons_zero]) <;> rfl) (by kernel_rfl) (by kernel_rfl) (by kernel_rfl) (by intro _ _ _ _ h; exact h) (by rfl) (by assumption) ?_
                apply Exists.intro
                refine ⟨?_, ?_⟩
                · intro W0 hSw
                  try dsimp only at hSw
                  go_simp
                  try (with_reducible rfl)
                try simp only [Act.put, List.setIfInBounds_toArray, List.set_cons_zero, List.set_cons_succ]
                refine take_on (i := 1) (by (simp only [List.getElem?_toArray, List.getElem?_cons_succ, List.getElem?_cons_zero]) <;> rfl) (by kernel_rfl) (by kernel_rfl) (by kernel_rfl) (by intro _ _ _ _ h; exact h) (by rfl) (by assumption) ?_
                apply Exists.intro
                refine ⟨?_, ?_⟩
                · intro W0 hSw
                  try dsimp only at hSw
                  go_simp
                  try (with_reducible rfl)
                try simp only [Act.put, List.setIfInBounds_toArray, List.set_cons_zero, List.set_cons_succ]
                refine take_on (i := 2) (by (simp only [List.getElem?_toArray, List.getElem?_cons_succ, List.getElem?_cons_zero]) <;> rfl) (by kernel_rfl) (by kernel_rfl) (by kernel_rfl) (by intro _ _ _ _ h; exact h) (by rfl) (by assumption) ?_
                apply Exists.intro
                refine ⟨?_, ?_⟩
                · intro W0 hSw
                  try dsimp only at hSw
                  go_simp
                  try (with_reducible rfl)
                try simp only [Act.put, List.setIfInBounds_toArray, List.set_cons_zero, List.set_cons_succ]
                refine take_on (i := 3) (by (simp only [List.getElem?_toArray, List.getElem?_cons_succ, List.getElem?_cons_zero]) <;> rfl) (by kernel_rfl) (by kernel_rfl) (by kernel_rfl) (by intro _ _ _ _ h; exact h) (by rfl) (by assumption) ?_
                apply Exists.intro
                refine ⟨?_, ?_⟩
                · intro W0 hSw
                  try dsimp only at hSw
                  go_simp
                  try (with_reducible rfl)
                try simp only [Act.put, List.setIfInBounds_toArray, List.set_cons_zero, List.set_cons_succ]
                refine take_on (i := 4) (by (simp only [List.getElem?_toArray, List.getElem?_cons_succ, List.getElem?_cons_zero]) <;> rfl) (by kernel_rfl) (by kernel_rfl) (by kernel_rfl) (by intro _ _ _ _ h; exact h) (by rfl) (by assumption) ?_
                apply Exists.intro
                refine ⟨?_, ?_⟩
                · intro W0 hSw
                  try dsimp only at hSw
                  go_simp
                  try (with_reducible rfl)
                try simp only [Act.put, List.setIfInBounds_toArray, List.set_cons_zero, List.set_cons_succ]
                refine take_on (i := 5) (by (simp only [List.getElem?_toArray, List.getElem?_cons_succ, List.getElem?_cons_zero]) <;> rfl) (by kernel_rfl) (by kernel_rfl) (by kernel_rfl) (by intro _ _ _ _ h; exact h) (by rfl) (by assumption) ?_
                apply Exists.intro
                refine ⟨?_, ?_⟩
                · intro W0 hSw
                  try dsimp only at hSw
                  go_simp
                  try (with_reducible rfl)
                try simp only [Act.put, List.setIfInBounds_toArray, List.set_cons_zero, List.set_cons_succ]
                refine take_on (i := 6) (by (simp only [List.getElem?_toArray, List.getElem?_cons_succ, List.getElem?_cons_zero]) <;> rfl) (by kernel_rfl) (by kernel_rfl) (by kernel_rfl) (by intro _ _ _ _ h; exact h) (by rfl) (by assumption) ?_
                apply Exists.intro
                refine ⟨?_, ?_⟩
                · intro W0 hSw
                  try dsimp only at hSw
                  go_simp
                  try (with_reducible rfl)
                try simp only [Act.put, List.setIfInBounds_toArray, List.set_cons_zero, List.set_cons_succ]
                refine take_on (i := 7) (by (simp only [List.getElem?_toArray, List.getElem?_cons_succ, List.getElem?_cons_zero]) <;> rfl) (by kernel_rfl) (by kernel_rfl) (by kernel_rfl) (by intro _ _ _ _ h; exact h) (by rfl) (by assumption) ?_
                apply Exists.intro
                refine ⟨?_, ?_⟩
                · intro W0 hSw
                  try dsimp only at hSw
                  go_simp
                  try (with_reducible rfl)
                try simp only [Act.put, List.setIfInBounds_toArray, List.set_cons_zero, List.set_cons_succ]
                refine take_on (i := 8) (by (simp only [List.getElem?_toArray, List.getElem?_cons_succ, List.getElem?_cons_zero]) <;> rfl) (by kernel_rfl) (by kernel_rfl) (by kernel_rfl) (by intro _ _ _ _ h; exact h) (by rfl) (by assumption) ?_
                apply Exists.intro
                refine ⟨?_, ?_⟩
                · intro W0 hSw
                  try dsimp only at hSw
                  go_simp
                  try (with_reducible rfl)
                try simp only [Act.put, List.setIfInBounds_toArray, List.set_cons_zero, List.set_cons_succ]
                refine wpAnyH_ready (rs := [9]) (by kernel_rfl) (by simp) ?_
                refine AllReadyH.cons (by (simp only [List.getElem?_toArray, List.getElem?_cons_succ, List.getElem?_cons_zero]) <;> rfl) (fun K hK => ?_) AllReadyH.nil
                go_simp
                refine (W2 _).mono ?_
                rintro e5 w' ⟨rfl, rfl⟩
                go_wp2_with fail
                refine hK.out _ _ ?_ (fun hHeld => ?_)
                · (try dsimp only)
                  first | (exact hkeep) | (go_keep)
                clear hK K
                try simp only [Act.put, List.setIfInBounds_toArray, List.set_cons_zero, List.set_cons_succ]
                refine take_on (i := 10) (by (simp only [List.getElem?_toArray, List.getElem?_cons_succ, List.getElem?_cons_zero]) <;> rfl) (by kernel_rfl) (by kernel_rfl) (by kernel_rfl) (by intro _ _ _ _ h; exact h) (by rfl) (by assumption) ?_
                apply Exists.intro
                refine ⟨?_, ?_⟩
                · intro W0 hSw
                  try dsimp only at hSw
                  go_simp
                  try (with_reducible rfl)
                try simp only [Act.put, List.setIfInBounds_toArray, List.set_cons_zero, List.set_cons_succ]
                refine wpAnyH_ready (rs := [11]) (by kernel_rfl) (by simp) ?_
                refine AllReadyH.cons (by (simp only [List.getElem?_toArray, List.getElem?_cons_succ, List.getElem?_cons_zero]) <;> rfl) (fun K hK => ?_) AllReadyH.nil
                go_simp
                refine (cutInt_calls U cu x.us ((l.length : Int) + v2) k1 _ (hs1.of_below (Env.low (by repeat (first | (with_reducible exact E) | (with_reducible apply Env.drew) | (with_reducible apply Env.drewN) | (with_reducible apply Env.alloc'))))) su n1 n2).mono ?_
                rintro e5 w5 ⟨CU, pU, hU, us, rfl, oU, hmem, hUl, uU⟩
                have E5 := E.drew.new uU
                simp at E5
                have hkeep := And.intro (E5.cell 2 rfl 3 rfl) (And.intro (E5.cell 2 rfl 4 rfl) (KP _ _ E5 rfl))
                go_wp2_with fail
                refine hK.out _ _ ?_ (fun hHeld => ?_)
                · (try dsimp only)
                  first | (exact hkeep) | (go_keep)
                clear hK K
                try simp only [Act.put, List.setIfInBounds_toArray, List.set_cons_zero, List.set_cons_succ]
                refine take_on (i := 12) (by (simp only [List.getElem?_toArray, List.getElem?_cons_succ, List.getElem?_cons_zero]) <;> rfl) (by kernel_rfl) (by kernel_rfl) (by kernel_rfl) (by intro _ _ _ _ h; exact h) (by rfl) (by assumption) ?_
                apply Exists.intro
                refine ⟨?_, ?_⟩
                · intro W0 hSw
                  try dsimp only at hSw
                  go_simp
                  try (with_reducible rfl)
                try simp only [Act.put, List.setIfInBounds_toArray, List.set_cons_zero, List.set_cons_succ]
                refine wpAnyH_done (by kernel_rfl) ?_ _
                clear hHeld hkeep d3 d4 kp hwl E
                have HZ : Hid (∀ u ∈ us, I64 u) := fun u hu => hz2.out u (hmem u hu)
                have lus := oU.small
                obtain ⟨un, hun⟩ : ∃ un, us.length = un := ⟨_, rfl⟩
                rw [hun] at lus hUl
                have HUN := Lib.hid hun
                clear hmem
                rw [hun]
                clear hun
                have lcu := oU.le
                have lcm := oU.max
                rw [HUN.out] at lcu
                unfold maxLen at lcm
                go_upto_region 20 with fail
                go_wp2_with fail
                go_loopw [84] (fun i wr => ∃ (q : Nat) (us' : List Int) (hU' : Hp), q ≤ un ∧ i = .int .i64 q ∧ Hid (us'.length = un) ∧ Hid (∀ u ∈ us', I64 u) ∧ Ow kInt hU' CU pU us' ∧ Env w wr [h, hr, Hp.box bw [.int .i64 (x.f 0), .int .i64 (x.f 1), .int .i64 (x.f 2), .int .i64 (x.f 3), .slice U x.us.length cu] 28, hU']) (fun i _ => un - (intOf i).toNat)
                case atStart => exact ⟨0, us, hU, by omega, rfl, HUN, HZ, oU, E5⟩
                case round =>
                  clear E5 oU HUN HZ
                  obtain ⟨q, us', hU', hq, rfl, hul, hzz, oU, E⟩ := hrel
                  by_cases hqu : q < un
                  · obtain ⟨u, hu⟩ := some_of_lt (show q < us'.length by rw [hul.out]; exact hqu)
                    obtain ⟨bU, oo, hCU, cU⟩ := oU.sl.int (E.sub 3 rfl) hu
                    subst hCU
                    have i5 : (0 : Int) ≤ (q : Int) := by omega
                    have i6 : (q : Int) < (un : Int) := by omega
                    have kp := KP _ _ E rfl
                    have d3 := E.cell 2 rfl 3 rfl
                    have fU := oU.cell_free (E.sub 3 rfl) (by rw [hul.out]; omega)
                    by_cases hql : q < l.length ∧ (x.f 3).tmod 5 ≠ 0
                    · obtain ⟨hql, hm5⟩ := hql
                      obtain ⟨z, hzq⟩ := some_of_lt hql
                      obtain ⟨bz, oz, hA2, _, _, cz⟩ := sl2.tri (E.sub 1 rfl) hzq
                      subst hA2
                      have hzc := gl.lo z (List.mem_of_getElem? hzq.out)
                      have hzl := le_sumC gl.lo (List.mem_of_getElem? hzq.out)
                      have hmon := gl.mon
                      have i7 : (q : Int) < (l.length : Int) := by omega
                      have t5 : ((x.f 3).tmod 5 == 0) = false := by simpa using hm5
                      have t5' : ((x.f 3).tmod 5 != 0) = true := by simpa using hm5
                      have hwz : IntKind.i64.wrap (z.c + 1) = z.c + 1 := by rw [IntKind.wrap_i64]; omega
                      have WU := fun W => within_calls u (z.c + 1) W (by omega) (by omega)
                      have u1 := within_lo u (n := z.c + 1) (by omega)
                      have u2 := within_hi u (n := z.c + 1) (by omega)
                      generalize within u (z.c + 1) = r at *
                      obtain ⟨hV, oV, uV⟩ := Ow.set (x' := r) (v := .int .i64 r) (j := 0) oU (E.sub 3 rfl) hu.out (by decide) rfl
                      have KZ : ∀ V L, Env w V L → L[1]? = some hr → V.cell? ⟨bz, oz + q * 3 + 2, none⟩ = some (.int .i64 z.c) := fun V L E i => by
                        obtain ⟨b', o', e, _, _, h3⟩ := sl2.tri (E.sub 1 i) hzq
                        cases e; exact h3
                      clear hm5
                      go_upto_region 23 with fail
                      refine wp_region_still_tail 17 (by kernel_rfl) (by kernel_rfl) ?_
                      simp only [List.take_succ_cons, List.take_zero, List.drop_succ_cons, List.drop_zero]
                      repeat still_step
                      still_call ((WU _).mono fun _ _ ⟨a, b⟩ => ⟨a, b.symm⟩)
                      repeat still_step
                      refine wpStill_nil ?_
                      change wpList _ _ _ _ _ wr.drew
                      have E6 := (E.upd 3 rfl uV).drew
                      simp at E6
                      go_wp2
                      clear kp d3 fU cU cz E uV
                      have HzV : Hid (∀ u ∈ us'.set q r, I64 u) := fun y hy => by
                        rcases List.mem_or_eq_of_mem_set hy with hy | rfl
                        · exact hzz.out y hy
                        · exact ⟨by omega, by omega⟩
                      go_roundw
                      case rel => exact ⟨q + 1, us'.set q r, hV, by omega, by go_num, by unfold Hid; rw [List.length_set]; exact hul.out, HzV, oV, E6⟩
                      case measure => simp [intOf]; omega
                    · by_cases hql2 : q < l.length
                      · have t5 : ((x.f 3).tmod 5 == 0) = true := by
                          have : (x.f 3).tmod 5 = 0 := by
                            rcases Int.decEq ((x.f 3).tmod 5) 0 with h | h
                            · exact absurd ⟨hql2, h⟩ hql
                            · exact h
                          simpa using this
                        have t5' : ((x.f 3).tmod 5 != 0) = false := by
                          have : (x.f 3).tmod 5 = 0 := by simpa using t5
                          simpa using this
                        have i7 : (q : Int) < (l.length : Int) := by omega
                        clear hql
                        go_wp2
                        go_roundw
                        case rel => exact ⟨q + 1, us', hU', by omega, by go_num, hul, hzz, oU, E⟩
                        case measure => simp [intOf]; omega
                      · have i7 : (l.length : Int) ≤ (q : Int) := by omega
                        clear hql
                        go_wp2
                        go_roundw
                        case rel => exact ⟨q + 1, us', hU', by omega, by go_num, hul, hzz, oU, E⟩
                        case measure => simp [intOf]; omega
                  · obtain rfl : q = un := by omega
                    go_wp2_with fail
                    refine (copyInt_calls CU pU us' q hul.out hU' _ (E.sub 3 rfl) oU.sl (by rw [hul.out]; omega)).mono ?_
                    rintro e5 w5 ⟨CL, pL, hL, rfl, oL, uL⟩
                    have E5 := E.new uL
                    simp at E5
                    have lL := oL.small
                    go_wp2_with fail
                    refine (Vnt.take S E5 0 rfl (E5.sub 3 rfl) oU.sl hzz.out q hul.out ⟨rfl, rfl⟩).mono ?_
                    rintro e6 w6 ⟨h6, rfl, S6, E6⟩
                    simp at E6
                    go_wp2_with fail
                    refine (Los.take ⟨⟨_, hb2, A2, ca2, rfl, ow2⟩, gl⟩ E6 1 rfl (E6.sub 3 rfl) oU.sl hzz.out q hul.out ⟨rfl, rfl⟩).mono ?_
                    rintro e7 w7 ⟨h7, rfl, S7, E7⟩
                    simp at E7
                    have SB := same_int CU CL pU pL us' us' hU' hL w7 (E7.sub 3 rfl) (E7.sub 4 rfl) oU.sl oL.sl
                    rw [hul.out, eqB_t rfl] at SB
                    go_wp2_with fail
                    refine SB.mono ?_
                    rintro e8 w8 ⟨rfl, B8⟩
                    have E8 := ((E7.below B8).drop 4).drop 3
                    simp at E8
                    go_wp2_with fail
                    go_meet
                    exact ⟨_, _, _, S6, S7, E8⟩
          case rest =>
            clear E S P q0 q1 q2 q3 q4 qf gl
            obtain ⟨h, hr, l, S, P, E⟩ := hcut
            as_aux_lemma =>
              obtain ⟨cs2, hb2, A2, ca2, rfl, ow2⟩ := P.pt
              have sl2 := ow2.sl.mono (Hp.del_le hr b2)
              have KP : ∀ V L, Env w V L → L[1]? = some hr → V.cell? ⟨b2, 0, none⟩ = some (.slice A2 l.length ca2) := fun V L E i => by
                rw [cell_of_row V b2 0 _ _ _ (E.sub 1 i _ _ hb2)]; rfl
              have kp := KP _ _ E rfl
              obtain ⟨T, hT⟩ : ∃ T, sumC l = T := ⟨_, rfl⟩
              have HT := Lib.hid hT
              clear hT
              go_upto_region 37 with fail
              refine wp_region_held_drew (S := (fun V => V.cell? ⟨b2, 0, none⟩ = some (.slice A2 l.length ca2))) (by kernel_rfl) ?_ (fun hHeld => ?_)
              · (try dsimp only)
                first | (go_keep)
              refine take_on (i := 0) (by (simp only [List.getElem?_toArray, List.getElem?_cons_succ, List.getElem?_cons_zero]) <;> rfl) (by kernel_rfl) (by kernel_rfl) (by kernel_rfl) (by intro _ _ _ _ h; exact h) (by rfl) (by assumption) ?_
              apply Exists.intro
              refine ⟨?_, ?_⟩
              · intro W0 hSw
                try dsimp only at hSw
                go_simp
                try (with_reducible rfl)
              try simp only [Act.put, List.setIfInBounds_toArray, List.set_cons_zero, List.set_cons_succ]
              refine take_on (i := 2) (by (simp only [List.getElem?_toArray, List.getElem?_cons_succ, List.getElem?_cons_zero]) <;> rfl) (by kernel_rfl) (by kernel_rfl) (by kernel_rfl) (by intro _ _ _ _ h; exact h) (by rfl) (by assumption) ?_
              apply Exists.intro
              refine ⟨?_, ?_⟩
              · intro W0 hSw
                try dsimp only at hSw
                go_simp
                try (with_reducible rfl)
              try simp only [Act.put, List.setIfInBounds_toArray, List.set_cons_zero, List.set_cons_succ]
              refine take_on (i := 3) (by (simp only [List.getElem?_toArray, List.getElem?_cons_succ, List.getElem?_cons_zero]) <;> rfl) (by kernel_rfl) (by kernel_rfl) (by kernel_rfl) (by intro _ _ _ _ h; exact h) (by rfl) (by assumption) ?_
              apply Exists.intro
              refine ⟨?_, ?_⟩
              · intro W0 hSw
                try dsimp only at hSw
                go_simp
                try (with_reducible rfl)
              try simp only [Act.put, List.setIfInBounds_toArray, List.set_cons_zero, List.set_cons_succ]
              refine take_on (i := 4) (by (simp only [List.getElem?_toArray, List.getElem?_cons_succ, List.getElem?_cons_zero]) <;> rfl) (by kernel_rfl) (by kernel_rfl) (by kernel_rfl) (by intro _ _ _ _ h; exact h) (by rfl) (by assumption) ?_
              apply Exists.intro
              refine ⟨?_, ?_⟩
              · intro W0 hSw
                try dsimp only at hSw
                go_simp
                try (with_reducible rfl)
              try simp only [Act.put, List.setIfInBounds_toArray, List.set_cons_zero, List.set_cons_succ]
              refine take_on (i := 5) (by (simp only [List.getElem?_toArray, List.getElem?_cons_succ, List.getElem?_cons_zero]) <;> rfl) (by kernel_rfl) (by kernel_rfl) (by kernel_rfl) (by intro _ _ _ _ h; exact h) (by rfl) (by assumption) ?_
              apply Exists.intro
              refine ⟨?_, ?_⟩
              · intro W0 hSw
                try dsimp only at hSw
                go_simp
                try (with_reducible rfl)
              try simp only [Act.put, List.setIfInBounds_toArray, List.set_cons_zero, List.set_cons_succ]
              refine wpAnyH_ready (rs := [1]) (by kernel_rfl) (by simp) ?_
              refine AllReadyH.cons (by (simp only [List.getElem?_toArray, List.getElem?_cons_succ, List.getElem?_cons_zero]) <;> rfl) (fun K hK => ?_) AllReadyH.nil
              go_simp
              refine (Vnt.rows S (by repeat (first | (with_reducible exact E) | (with_reducible apply Env.drew) | (with_reducible apply Env.drewN) | (with_reducible apply Env.alloc'))) 0 rfl l.length rfl).mono ?_
              rintro e5 w5 ⟨C5, n5, h5, rfl, o5, E5⟩
              simp at E5
              have hkeep := KP _ _ E5 rfl
              go_wp2_with fail
              refine hK.out _ _ ?_ (fun hHeld => ?_)
              · (try dsimp only)
                first | (exact hkeep) | (go_keep)
              clear hK K
              try simp only [Act.put, List.setIfInBounds_toArray, List.set_cons_zero, List.set_cons_succ]
              refine wpAnyH_ready (rs := [6]) (by kernel_rfl) (by simp) ?_
              refine AllReadyH.cons (by (simp only [List.getElem?_toArray, List.getElem?_cons_succ, List.getElem?_cons_zero]) <;> rfl) (fun K hK => ?_) AllReadyH.nil
              go_simp
              have SB := same_vint C5 A2 n5 ca2 l l h5 hr w5 (E5.sub 3 rfl) (E5.sub 1 rfl) o5.sl sl2
              rw [eqB_t rfl] at SB
              refine SB.mono ?_
              rintro e6 w6 ⟨rfl, B6⟩
              have E6 := (E5.below B6).drop 3
              simp at E6
              have hkeep := KP _ _ E6 rfl
              go_wp2_with fail
              refine hK.out _ _ ?_ (fun hHeld => ?_)
              · (try dsimp only)
                first | (exact hkeep) | (go_keep)
              clear hK K
              try simp only [Act.put, List.setIfInBounds_toArray, List.set_cons_zero, List.set_cons_succ]
              refine take_on (i := 7) (by (simp only [List.getElem?_toArray, List.getElem?_cons_succ, List.getElem?_cons_zero]) <;> rfl) (by kernel_rfl) (by kernel_rfl) (by kernel_rfl) (by intro _ _ _ _ h; exact h) (by rfl) (by assumption) ?_
              apply Exists.intro
              refine ⟨?_, ?_⟩
              · intro W0 hSw
                try dsimp only at hSw
                go_simp
                try (with_reducible rfl)
              try simp only [Act.put, List.setIfInBounds_toArray, List.set_cons_zero, List.set_cons_succ]
              refine take_on (i := 8) (by (simp only [List.getElem?_toArray, List.getElem?_cons_succ, List.getElem?_cons_zero]) <;> rfl) (by kernel_rfl) (by kernel_rfl) (by kernel_rfl) (by intro _ _ _ _ h; exact h) (by rfl) (by assumption) ?_
              apply Exists.intro
              refine ⟨?_, ?_⟩
              · intro W0 hSw
                try dsimp only at hSw
                go_simp
                try (with_reducible rfl)
              try simp only [Act.put, List.setIfInBounds_toArray, List.set_cons_zero, List.set_cons_succ]
              refine take_on (i := 9) (by (simp only [List.getElem?_toArray, List.getElem?_cons_succ, List.getElem?_cons_zero]) <;> rfl) (by kernel_rfl) (by kernel_rfl) (by kernel_rfl) (by intro _ _ _ _ h; exact h) (by rfl) (by assumption) ?_
              apply Exists.intro
              refine ⟨?_, ?_⟩
              · intro W0 hSw
                try dsimp only at hSw
                go_simp
                try (with_reducible rfl)
              try simp only [Act.put, List.setIfInBounds_toArray, List.set_cons_zero, List.set_cons_succ]
              refine take_on (i := 11) (by (simp only [List.getElem?_toArray, List.getElem?_cons_succ, List.getElem?_cons_zero]) <;> rfl) (by kernel_rfl) (by kernel_rfl) (by kernel_rfl) (by intro _ _ _ _ h; exact h) (by rfl) (by assumption) ?_
              apply Exists.intro
              refine ⟨?_, ?_⟩
              · intro W0 hSw
                try dsimp only at hSw
                go_simp
                try (with_reducible rfl)
              try simp only [Act.put, List.setIfInBounds_toArray, List.set_cons_zero, List.set_cons_succ]
              refine wpAnyH_ready (rs := [10]) (by kernel_rfl) (by simp) ?_
              refine AllReadyH.cons (by (simp only [List.getElem?_toArray, List.getElem?_cons_succ, List.getElem?_cons_zero]) <;> rfl) (fun K hK => ?_) AllReadyH.nil
              go_simp
              refine (Vnt.left S E6 0 rfl HT.out).mono ?_
              rintro e7 w7 ⟨rfl, E7⟩
              have hkeep := KP _ _ E7 rfl
              go_wp2_with fail
              refine hK.out _ _ ?_ (fun hHeld => ?_)
              · (try dsimp only)
                first | (exact hkeep) | (go_keep)
              clear hK K
              try simp only [Act.put, List.setIfInBounds_toArray, List.set_cons_zero, List.set_cons_succ]
              refine wpAnyH_ready (rs := [12]) (by kernel_rfl) (by simp) ?_
              refine AllReadyH.cons (by (simp only [List.getElem?_toArray, List.getElem?_cons_succ, List.getElem?_cons_zero]) <;> rfl) (fun K hK => ?_) AllReadyH.nil
              go_simp
              refine (Los.left P E7 1 rfl HT.out).mono ?_
              rintro e8 w8 ⟨rfl, E8⟩
              have hkeep := KP _ _ E8 rfl
              go_wp2_with fail
              refine hK.out _ _ ?_ (fun hHeld => ?_)
              · (try dsimp only)
                first | (exact hkeep) | (go_keep)
              clear hK K
              try simp only [Act.put, List.setIfInBounds_toArray, List.set_cons_zero, List.set_cons_succ]
              refine take_on (i := 13) (by (simp only [List.getElem?_toArray, List.getElem?_cons_succ, List.getElem?_cons_zero]) <;> rfl) (by kernel_rfl) (by kernel_rfl) (by kernel_rfl) (by intro _ _ _ _ h; exact h) (by rfl) (by assumption) ?_
              apply Exists.intro
              refine ⟨?_, ?_⟩
              · intro W0 hSw
                try dsimp only at hSw
                go_simp
                try (with_reducible rfl)
              try simp only [Act.put, List.setIfInBounds_toArray, List.set_cons_zero, List.set_cons_succ]
              refine take_on (i := 14) (by (simp only [List.getElem?_toArray, List.getElem?_cons_succ, List.getElem?_cons_zero]) <;> rfl) (by kernel_rfl) (by kernel_rfl) (by kernel_rfl) (by intro _ _ _ _ h; exact h) (by rfl) (by assumption) ?_
              apply Exists.intro
              refine ⟨?_, ?_⟩
              · intro W0 hSw
                try dsimp only at hSw
                go_simp
                try (with_reducible rfl)
              try simp only [Act.put, List.setIfInBounds_toArray, List.set_cons_zero, List.set_cons_succ]
              refine wpAnyH_done (by kernel_rfl) ?_ _
              have E9 := E8.drop 2
              simp at E9
              go_wp2
              go_roundw
              case rel => exact ⟨j + 1, h, hr, l, by omega, by omega, by go_num, S, P, E9⟩
              case measure => simp [intOf]; omega
    · rcases (show xs.length ≤ j ∨ (j < xs.length ∧ j = 24) by omega) with g | ⟨g, rfl⟩
      all_goals
        go_wp2_with fail
        refine (wakes13 _).mono ?_
        rintro e w2 ⟨rfl, B2⟩
        go_wp2
        go_ret
        exact ⟨rfl, (E.below B2).low⟩
end Go.Proofs.Ytpigoegjoagbnaa
end
namespace Go.Proofs.Ytpigoegjoagbnaa.vintagePlays
open Go.ChangeShapes Go.WideShapes Go.ChangeAt Go.RowKit Go.Sl
set_option linter.unusedVariables false
set_option maxRecDepth 100000
set_option maxHeartbeats 2000000
theorem lifted (os : Os) (started : os.Started) (H : Type) (enc : TypeId × Value → H) :
    ReturnsInHanded {} Try.checked os 7 .any (Rows.vintagePlaysSpec.pre6 enc Try.prog Try.f7 Rows.vintagePlaysRow.domain false) (Rows.vintagePlaysSpec.post enc Try.prog Try.f7 false true false false) := by
  refine returnsInHanded_of_change_sized (C := Try.checked) Lift.own started (by kernel_rfl) Try.func7
    (ChangeSpec.witness6 (enc := enc) (C := Try.checked) false ⟨#[], #[.slice none 0 0], []⟩ 8 (by kernel_rfl) (by kernel_rfl) (by kernel_rfl) (by kernel_rfl)) ?_
  intro W base args ds gs before hval0 hW hcnd hsz0 _
  have hval : ∀ (j : Nat) t v, Try.f7.params[j]? = some t → args[j]? = some v → Value.okWide Try.prog W .any base t v := hval0
  have hW' := hW
  obtain ⟨p, q, hA0, hV, rfl, hfz, hnd⟩ := hW
  have hA : DataW.TrodAll enc Try.prog W 0 (fun _ => true) true Try.f7.params.toList args.toList ds p := hA0
  rw [Try.params7] at hA hval
  obtain ⟨v0, vs0, d0, ds0, p0, q0, hargs, rfl, rfl, h0, r0⟩ := trodAll_cons hA
  obtain ⟨rfl, rfl, rfl⟩ := trodAll_nil r0
  obtain rfl : args = #[v0] := by cases args; simp_all
  obtain ⟨rfl, rfl⟩ := trodVars_none hV
  have k0 := h0
  have lt0 : ∀ x ∈ p0, x.block < W.heap.size := by obtain ⟨m, hm⟩ := k0; exact DataW.trod_lt m _ _ _ hm
  obtain ⟨a0_0, len0_0, cap0_0, rfl⟩ := okWide_slice Try.underlying22 (hval 0 22 v0 rfl rfl)
  obtain ⟨fuel0, hf0⟩ := h0
  obtain ⟨A0, c0, z0, hcs0, s0, w0⟩ := open_vacts Try.underlying22 Try.underlying28 (by kernel_rfl) (fun i hi => match i, hi with | 0, _ => ⟨_, rfl, rfl, Try.underlying3, by kernel_rfl⟩ | 1, _ => ⟨_, rfl, rfl, Try.underlying3, by kernel_rfl⟩ | 2, _ => ⟨_, rfl, rfl, Try.underlying3, by kernel_rfl⟩ | 3, _ => ⟨_, rfl, rfl, Try.underlying3, by kernel_rfl⟩ | k + 4, h => absurd h (by omega)) ⟨_, rfl, rfl, rfl, by kernel_rfl⟩ Try.underlying26 Try.underlying3 (by kernel_rfl) hf0
  simp [Value.cells] at hcs0
  obtain ⟨rfl, rfl, rfl⟩ := hcs0
  clear hA0 hval0 hsz0
  refine (vintPlays_calls a0_0 cap0_0 z0 (Hp.all W) W (Hp.all_sub W) s0 w0).mono fun e W' ⟨he, bel⟩ => ?_
  subst he
  exact ⟨_, rfl, _, _, _, [], _, [], hW', trodAll_mk1 (shut_bool Try.underlying4 _), (trodAll_cons_mk (Below.trod Lift.laidOut (by kernel_rfl) (of_decide_eq_true (by kernel_rfl)) k0 bel lt0) trodAll_mk0), rfl, bel.frame _, fun h => by cases h⟩
theorem over : Rows.vintagePlaysRow.holds Try.pinned (OpenSpec.ofChange Rows.vintagePlaysSpec) :=
  OpenClaim.holds_of_wide 7 Try.f7 rfl rfl rfl rfl rfl rfl rfl ⟨rfl, rfl, rfl, rfl, rfl⟩ rfl rfl rfl rfl rfl (by kernel_rfl) Try.func7 (by kernel_rfl)
    (of_decide_eq_true (by kernel_rfl)) (by unfold Func.isWrapper; first | (rw [if_pos (by decide +kernel)]; kernel_rfl) | (rw [if_neg (by decide +kernel)]; exact ⟨rfl, rfl⟩))
    (fun os started H enc _ => lifted os started H enc)
end Go.Proofs.Ytpigoegjoagbnaa.vintagePlays
namespace Go.Proofs.Ytpigoegjoagbnaa
theorem vintagePlays_holds : Rows.VintagePlaysSaid := vintagePlays.over
#print axioms vintagePlays_holds
end Go.Proofs.Ytpigoegjoagbnaa
