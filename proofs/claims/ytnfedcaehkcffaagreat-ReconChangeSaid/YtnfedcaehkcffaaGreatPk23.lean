/- Walks and plain facts that the laws of this seat share, part 23: contracts of functions, each said at its theorem. -/
import Derived.Test.YtnfedcaehkcffaaGreatPk22
set_option linter.all false
section
/- The walk of ClosingErrors. -/
namespace Go.Proofs.YtnfedcaehkcffaaGreat
open Go.RowKit Go.Sl
set_option maxHeartbeats 4000000
set_option maxRecDepth 100000
set_option linter.unusedSimpArgs false
theorem closingErrors_calls (z0 : Int) (w : World) :
    Calls Tryz.prog 3 #[.int .i64 z0] w fun e w' => e = .returned (.bool true) ∧ Below w.heap.size w w' := by
  have WC0 := fun W => within_calls z0 1000 W (by omega) (by omega)
  have p1 := within_lo z0 (n := 1000) (by omega)
  have p2 := within_hi z0 (n := 1000) (by omega)
  generalize within z0 1000 = p at *
  obtain ⟨n, hn⟩ : ∃ n, 1 + p = n := ⟨_, rfl⟩
  have hn1 : 1 ≤ n ∧ n ≤ 1000 := by omega
  have ER := Lib.hid (er_all hn1)
  have TW := Lib.hid twoT_ok
  have gT := twoT_good
  have E0 := Env.start w
  go_enter Tryz.func3, Tryz.ntmps3
  go_wp2_with fail
  refine (fresh19_calls 250000 (by decide) _).mono ?_
  rintro e w1 ⟨ht, bt, hr, br, hv, bv, rfl, ST, SR, SV, E1⟩
  replace E1 := Env.join E0 E1
  simp at E1
  go_wp2_with fail
  refine (Tab.add ST E1 0 rfl deS 5 1 3 TW.out).mono ?_
  rintro e w2 ⟨ht2, rfl, ST, E2⟩
  simp at E2
  go_wp2_with fail
  refine (WC0 _).mono ?_
  rintro e w' ⟨rfl, rfl⟩
  have E4 := E2.box0 [.string ukS, .int .i64 (-1), .int .i64 0, .int .i64 0, .int .i64 0, .int .i64 0, .int .i64 0, .int .i64 0, .int .i64 1, .string ukS, .int .i64 400, .int .i64 0, .int .i64 0, .int .i64 0, .int .i64 0, .int .i64 0, .int .i64 0, .int .i64 1, .string ukS, .int .i64 0, .int .i64 0, .int .i64 0, .int .i64 (-n), .int .i64 0, .int .i64 0, .int .i64 0, .int .i64 1, .string ukS, .int .i64 0, .int .i64 0, .int .i64 0, .int .i64 0, .int .i64 0, .int .i64 0, .int .i64 (100000000000 + n), .int .i64 1, .string frS, .int .i64 0, .int .i64 0, .int .i64 0, .int .i64 0, .int .i64 0, .int .i64 0, .int .i64 0, .int .i64 7, .string deS, .int .i64 2, .int .i64 0, .int .i64 0, .int .i64 0, .int .i64 0, .int .i64 0, .int .i64 0, .int .i64 7, .string deS, .int .i64 16, .int .i64 0, .int .i64 0, .int .i64 0, .int .i64 0, .int .i64 0, .int .i64 0, .int .i64 7, .string deS, .int .i64 20, .int .i64 0, .int .i64 0, .int .i64 0, .int .i64 0, .int .i64 0, .int .i64 0, .int .i64 0, .string ukS, .int .i64 0, .int .i64 (100000000000 + n), .int .i64 0, .int .i64 0, .int .i64 0, .int .i64 0, .int .i64 0, .int .i64 6, .string ukS, .int .i64 0, .int .i64 100000000000, .int .i64 n, .int .i64 0, .int .i64 0, .int .i64 0, .int .i64 0, .int .i64 6, .string ukS, .int .i64 0, .int .i64 0, .int .i64 0, .int .i64 0, .int .i64 (-1), .int .i64 0, .int .i64 0, .int .i64 1, .string ukS, .int .i64 0, .int .i64 0, .int .i64 0, .int .i64 0, .int .i64 0, .int .i64 (-1), .int .i64 0, .int .i64 1, .string ukS, .int .i64 0, .int .i64 100000000000, .int .i64 0, .int .i64 0, .int .i64 0, .int .i64 0, .int .i64 100000000000, .int .i64 6, .string ukS, .int .i64 0, .int .i64 n, .int .i64 0, .int .i64 0, .int .i64 0, .int .i64 0, .int .i64 (-n), .int .i64 0] 32
  have SX : Sl kErr (Hp.box w2.heap.size [.string ukS, .int .i64 (-1), .int .i64 0, .int .i64 0, .int .i64 0, .int .i64 0, .int .i64 0, .int .i64 0, .int .i64 1, .string ukS, .int .i64 400, .int .i64 0, .int .i64 0, .int .i64 0, .int .i64 0, .int .i64 0, .int .i64 0, .int .i64 1, .string ukS, .int .i64 0, .int .i64 0, .int .i64 0, .int .i64 (-n), .int .i64 0, .int .i64 0, .int .i64 0, .int .i64 1, .string ukS, .int .i64 0, .int .i64 0, .int .i64 0, .int .i64 0, .int .i64 0, .int .i64 0, .int .i64 (100000000000 + n), .int .i64 1, .string frS, .int .i64 0, .int .i64 0, .int .i64 0, .int .i64 0, .int .i64 0, .int .i64 0, .int .i64 0, .int .i64 7, .string deS, .int .i64 2, .int .i64 0, .int .i64 0, .int .i64 0, .int .i64 0, .int .i64 0, .int .i64 0, .int .i64 7, .string deS, .int .i64 16, .int .i64 0, .int .i64 0, .int .i64 0, .int .i64 0, .int .i64 0, .int .i64 0, .int .i64 7, .string deS, .int .i64 20, .int .i64 0, .int .i64 0, .int .i64 0, .int .i64 0, .int .i64 0, .int .i64 0, .int .i64 0, .string ukS, .int .i64 0, .int .i64 (100000000000 + n), .int .i64 0, .int .i64 0, .int .i64 0, .int .i64 0, .int .i64 0, .int .i64 6, .string ukS, .int .i64 0, .int .i64 100000000000, .int .i64 n, .int .i64 0, .int .i64 0, .int .i64 0, .int .i64 0, .int .i64 6, .string ukS, .int .i64 0, .int .i64 0, .int .i64 0, .int .i64 0, .int .i64 (-1), .int .i64 0, .int .i64 0, .int .i64 1, .string ukS, .int .i64 0, .int .i64 0, .int .i64 0, .int .i64 0, .int .i64 0, .int .i64 (-1), .int .i64 0, .int .i64 1, .string ukS, .int .i64 0, .int .i64 100000000000, .int .i64 0, .int .i64 0, .int .i64 0, .int .i64 0, .int .i64 100000000000, .int .i64 6, .string ukS, .int .i64 0, .int .i64 n, .int .i64 0, .int .i64 0, .int .i64 0, .int .i64 0, .int .i64 (-n), .int .i64 0] 32) (some ⟨w2.heap.size, 0, none⟩) 14 (erL n) := Sl.lit (fr := (0, 0)) (xs := erL n) (cells := SErr.cells) (Hp.one_self _ _) (by show 14 ≤ maxLen; decide)
  have hx14 : Hid ((erL n).length = 14) := rfl
  generalize hbb : Hp.box w2.heap.size [.string ukS, .int .i64 (-1), .int .i64 0, .int .i64 0, .int .i64 0, .int .i64 0, .int .i64 0, .int .i64 0, .int .i64 1, .string ukS, .int .i64 400, .int .i64 0, .int .i64 0, .int .i64 0, .int .i64 0, .int .i64 0, .int .i64 0, .int .i64 1, .string ukS, .int .i64 0, .int .i64 0, .int .i64 0, .int .i64 (-n), .int .i64 0, .int .i64 0, .int .i64 0, .int .i64 1, .string ukS, .int .i64 0, .int .i64 0, .int .i64 0, .int .i64 0, .int .i64 0, .int .i64 0, .int .i64 (100000000000 + n), .int .i64 1, .string frS, .int .i64 0, .int .i64 0, .int .i64 0, .int .i64 0, .int .i64 0, .int .i64 0, .int .i64 0, .int .i64 7, .string deS, .int .i64 2, .int .i64 0, .int .i64 0, .int .i64 0, .int .i64 0, .int .i64 0, .int .i64 0, .int .i64 7, .string deS, .int .i64 16, .int .i64 0, .int .i64 0, .int .i64 0, .int .i64 0, .int .i64 0, .int .i64 0, .int .i64 7, .string deS, .int .i64 20, .int .i64 0, .int .i64 0, .int .i64 0, .int .i64 0, .int .i64 0, .int .i64 0, .int .i64 0, .string ukS, .int .i64 0, .int .i64 (100000000000 + n), .int .i64 0, .int .i64 0, .int .i64 0, .int .i64 0, .int .i64 0, .int .i64 6, .string ukS, .int .i64 0, .int .i64 100000000000, .int .i64 n, .int .i64 0, .int .i64 0, .int .i64 0, .int .i64 0, .int .i64 6, .string ukS, .int .i64 0, .int .i64 0, .int .i64 0, .int .i64 0, .int .i64 (-1), .int .i64 0, .int .i64 0, .int .i64 1, .string ukS, .int .i64 0, .int .i64 0, .int .i64 0, .int .i64 0, .int .i64 0, .int .i64 (-1), .int .i64 0, .int .i64 1, .string ukS, .int .i64 0, .int .i64 100000000000, .int .i64 0, .int .i64 0, .int .i64 0, .int .i64 0, .int .i64 100000000000, .int .i64 6, .string ukS, .int .i64 0, .int .i64 n, .int .i64 0, .int .i64 0, .int .i64 0, .int .i64 0, .int .i64 (-n), .int .i64 0] 32 = blk at *
  clear hbb
  go_wp2
  generalize w2.heap.size = bx at *
  go_loopw [68] (fun i wr => ∃ q : Nat, q ≤ 14 ∧ i = .int .i64 q ∧ Env w wr [blk, ht2, hr, hv]) (fun i _ => 14 - (intOf i).toNat)
  case atStart => exact ⟨0, by omega, rfl, E4⟩
  case round =>
    clear E4 E2 E1
    obtain ⟨q, hq, rfl, E⟩ := hrel
    by_cases hlt : q < 14
    · obtain ⟨y, hy⟩ := some_of_lt (show q < (erL n).length by rw [hx14.out]; exact hlt)
      have HY := ER.out y (List.mem_of_getElem? hy.out)
      obtain ⟨x, e⟩ := y
      obtain ⟨b0, o0, e0, c1, c2, c3, c4, c5, c6, c7, c8, c9⟩ := SX.err (E.sub 0 rfl) hy
      cases e0
      rw [Nat.zero_add] at c1 c2 c3 c4 c5 c6 c7 c8 c9
      dsimp only at c1 c2 c3 c4 c5 c6 c7 c8 c9 HY
      have i1 : (0 : Int) ≤ (q : Int) := by omega
      have i2 : (q : Int) < 14 := by omega
      have g : GoodA ⟨twoT, x, balNone, [], []⟩ := ⟨gT, GoodB.none, GoodV.nil, GoodR.nil⟩
      have M := Lib.hid HY
      clear HY hy
      go_upto_region 8 with fail
      refine abs_env (E.box0 [.string x.j, .int .i64 x.per, .int .i64 x.book, .int .i64 x.perm, .int .i64 x.judge, .int .i64 x.cap, .int .i64 x.life, .int .i64 x.up, .int .i64 e] 32) (fun W3 E3 => ?_)
      generalize wr.heap.size = b8 at *
      clear c1 c2 c3 c4 c5 c6 c7 c8 c9 E
      have EV := E3.drew
      rcases Int.decEq e 0 with h0 | h0
      · have H0 := Lib.hid h0
        have t1 : (e != 0) = true := by simpa using h0
        have t2 : (e == 0) = false := by simpa using h0
        clear h0
        refine wp_region_held_drew (S := (fun V => V.rangeAt b8 0 [.string x.j, .int .i64 x.per, .int .i64 x.book, .int .i64 x.perm, .int .i64 x.judge, .int .i64 x.cap, .int .i64 x.life, .int .i64 x.up])) (by kernel_rfl) ?_ (fun hHeld => ?_)
        · (try dsimp only)
          first | (exact E3.drew.rangeMid 0 rfl 0 [.string x.j, .int .i64 x.per, .int .i64 x.book, .int .i64 x.perm, .int .i64 x.judge, .int .i64 x.cap, .int .i64 x.life, .int .i64 x.up] rfl)
        refine take_on (i := 0) (by (simp only [List.getElem?_toArray, List.getElem?_cons_succ, List.getElem?_cons_zero]) <;> rfl) (by kernel_rfl) (by kernel_rfl) (by kernel_rfl) (by intro _ _ _ _ h; exact h) (by rfl) (by assumption) ?_
        apply Exists.intro
        refine ⟨?_, ?_⟩
        · intro W0 hSw
          try dsimp only at hSw
          go_simp
          try (with_reducible rfl)
        try simp only [Act.put, List.setIfInBounds_toArray, List.set_cons_zero, List.set_cons_succ]
        refine take_on (i := 1) (by (simp only [List.getElem?_toArray, List.getElem?_cons_succ, List.getElem?_cons_zero]) <;> rfl) (by kernel_rfl) (by kernel_rfl) (by kernel_rfl) (by intro _ _ _ _ h; exact h) (by rfl) (by assumption) ?_
        apply Exists.intro
        refine ⟨?_, ?_⟩
        · intro W0 hSw
          try dsimp only at hSw
          go_simp
          try (with_reducible rfl)
        try simp only [Act.put, List.setIfInBounds_toArray, List.set_cons_zero, List.set_cons_succ]
        refine take_on (i := 2) (by (simp only [List.getElem?_toArray, List.getElem?_cons_succ, List.getElem?_cons_zero]) <;> rfl) (by kernel_rfl) (by kernel_rfl) (by kernel_rfl) (by intro _ _ _ _ h; exact h) (by rfl) (by assumption) ⟨_, fun W0 hSw => exec_load_mid 31 _ rfl b8 0 rfl [.string x.j, .int .i64 x.per, .int .i64 x.book, .int .i64 x.perm, .int .i64 x.judge, .int .i64 x.cap, .int .i64 x.life, .int .i64 x.up] _ W0 (hSw) Tryz.underlying31 rfl (by kernel_rfl), ?_⟩
        try simp only [Act.put, List.setIfInBounds_toArray, List.set_cons_zero, List.set_cons_succ]
        refine take_on (i := 4) (by (simp only [List.getElem?_toArray, List.getElem?_cons_succ, List.getElem?_cons_zero]) <;> rfl) (by kernel_rfl) (by kernel_rfl) (by kernel_rfl) (by intro _ _ _ _ h; exact h) (by rfl) (by assumption) ?_
        apply Exists.intro
        refine ⟨?_, ?_⟩
        · intro W0 hSw
          try dsimp only at hSw
          go_simp
          try (with_reducible rfl)
        try simp only [Act.put, List.setIfInBounds_toArray, List.set_cons_zero, List.set_cons_succ]
        refine take_on (i := 5) (by (simp only [List.getElem?_toArray, List.getElem?_cons_succ, List.getElem?_cons_zero]) <;> rfl) (by kernel_rfl) (by kernel_rfl) (by kernel_rfl) (by intro _ _ _ _ h; exact h) (by rfl) (by assumption) ?_
        apply Exists.intro
        refine ⟨?_, ?_⟩
        · intro W0 hSw
          try dsimp only at hSw
          go_simp
          try (with_reducible rfl)
        try simp only [Act.put, List.setIfInBounds_toArray, List.set_cons_zero, List.set_cons_succ]
        refine wpAnyH_ready (rs := [3, 11]) (by kernel_rfl) (by simp) ?_
        refine (AllReadyH.cons (by (simp only [List.getElem?_toArray, List.getElem?_cons_succ, List.getElem?_cons_zero]) <;> rfl) (fun K hK => ?_) (AllReadyH.cons (by (simp only [List.getElem?_toArray, List.getElem?_cons_succ, List.getElem?_cons_zero]) <;> rfl) (fun K hK => ?_) AllReadyH.nil))
        · go_simp
          refine (closingNone_calls _).mono ?_
          rintro e' w5 ⟨rfl, B5⟩
          replace EV := EV.below B5
          have hkeep := EV.rangeMid 0 rfl 0 [.string x.j, .int .i64 x.per, .int .i64 x.book, .int .i64 x.perm, .int .i64 x.judge, .int .i64 x.cap, .int .i64 x.life, .int .i64 x.up] rfl
          go_wp2_with fail
          refine hK.out _ _ ?_ (fun hHeld => ?_)
          · (try dsimp only)
            first | (exact hkeep) | (exact E3.drew.rangeMid 0 rfl 0 [.string x.j, .int .i64 x.per, .int .i64 x.book, .int .i64 x.perm, .int .i64 x.judge, .int .i64 x.cap, .int .i64 x.life, .int .i64 x.up] rfl)
          clear hK K
          try simp only [Act.put, List.setIfInBounds_toArray, List.set_cons_zero, List.set_cons_succ]
          refine wpAnyH_ready (rs := [6, 11]) (by kernel_rfl) (by simp) ?_
          refine (AllReadyH.cons (by (simp only [List.getElem?_toArray, List.getElem?_cons_succ, List.getElem?_cons_zero]) <;> rfl) (fun K hK => ?_) (AllReadyH.cons (by (simp only [List.getElem?_toArray, List.getElem?_cons_succ, List.getElem?_cons_zero]) <;> rfl) (fun K hK => ?_) AllReadyH.nil))
          · go_simp
            refine (Mk.err (x := x) (o := balNone) (A := none) (B := none) (ca := 0) (cb := 0) (hx := Hp.none) (hs := Hp.none) EV g M H0 (EV.sub 2 rfl) (Hp.none_sub _) (Hp.none_sub _) (EV.sub 4 rfl) (EV.sub 3 rfl) ST.pt (Sl.none _ _) (Sl.none _ _) SV SR).mono ?_
            rintro e' w6 ⟨rfl, EV⟩
            have hkeep := EV.rangeMid 0 rfl 0 [.string x.j, .int .i64 x.per, .int .i64 x.book, .int .i64 x.perm, .int .i64 x.judge, .int .i64 x.cap, .int .i64 x.life, .int .i64 x.up] rfl
            go_wp2_with fail
            refine hK.out _ _ ?_ (fun hHeld => ?_)
            · (try dsimp only)
              first | (exact hkeep) | (exact E3.drew.rangeMid 0 rfl 0 [.string x.j, .int .i64 x.per, .int .i64 x.book, .int .i64 x.perm, .int .i64 x.judge, .int .i64 x.cap, .int .i64 x.life, .int .i64 x.up] rfl)
            clear hK K
            try simp only [Act.put, List.setIfInBounds_toArray, List.set_cons_zero, List.set_cons_succ]
            refine take_on (i := 7) (by (simp only [List.getElem?_toArray, List.getElem?_cons_succ, List.getElem?_cons_zero]) <;> rfl) (by kernel_rfl) (by kernel_rfl) (by kernel_rfl) (by intro _ _ _ _ h; exact h) (by rfl) (by assumption) ?_
            apply Exists.intro
            refine ⟨?_, ?_⟩
            · intro W0 hSw
              try dsimp only at hSw
              go_simp
              try (with_reducible rfl)
            try simp only [Act.put, List.setIfInBounds_toArray, List.set_cons_zero, List.set_cons_succ]
            refine take_on (i := 8) (by (simp only [List.getElem?_toArray, List.getElem?_cons_succ, List.getElem?_cons_zero]) <;> rfl) (by kernel_rfl) (by kernel_rfl) (by kernel_rfl) (by intro _ _ _ _ h; exact h) (by rfl) (by assumption) ?_
            apply Exists.intro
            refine ⟨?_, ?_⟩
            · intro W0 hSw
              try dsimp only at hSw
              go_simp
              try (with_reducible rfl)
            try simp only [Act.put, List.setIfInBounds_toArray, List.set_cons_zero, List.set_cons_succ]
            refine take_on (i := 9) (by (simp only [List.getElem?_toArray, List.getElem?_cons_succ, List.getElem?_cons_zero]) <;> rfl) (by kernel_rfl) (by kernel_rfl) (by kernel_rfl) (by intro _ _ _ _ h; exact h) (by rfl) (by assumption) ?_
            apply Exists.intro
            refine ⟨?_, ?_⟩
            · intro W0 hSw
              try dsimp only at hSw
              go_simp
              try (with_reducible rfl)
            try simp only [Act.put, List.setIfInBounds_toArray, List.set_cons_zero, List.set_cons_succ]
            refine take_on (i := 10) (by (simp only [List.getElem?_toArray, List.getElem?_cons_succ, List.getElem?_cons_zero]) <;> rfl) (by kernel_rfl) (by kernel_rfl) (by kernel_rfl) (by intro _ _ _ _ h; exact h) (by rfl) (by assumption) ?_
            apply Exists.intro
            refine ⟨?_, ?_⟩
            · intro W0 hSw
              try dsimp only at hSw
              go_simp
              try (with_reducible rfl)
            try simp only [Act.put, List.setIfInBounds_toArray, List.set_cons_zero, List.set_cons_succ]
            refine wpAnyH_ready (rs := [11]) (by kernel_rfl) (by simp) ?_
            refine (AllReadyH.cons (by (simp only [List.getElem?_toArray, List.getElem?_cons_succ, List.getElem?_cons_zero]) <;> rfl) (fun K hK => ?_) AllReadyH.nil)
            go_simp
            refine abs_env (EV.box0 [.string ⟨#[]⟩, .int .i64 0, .int .i64 0, .int .i64 0, .int .i64 0, .int .i64 0, .int .i64 0, .int .i64 0, .int .i64 0, .int .i64 0, .slice none 0 0, .slice none 0 0, .int .i64 0, .int .i64 0, .int .i64 0, .int .i64 0, .int .i64 0, .int .i64 0, .slice none 0 0, .slice none 0 0, .int .i64 0, .int .i64 0, .int .i64 0, .int .i64 0, .int .i64 0, .int .i64 0, .int .i64 0, .int .i64 0, .int .i64 0, .int .i64 0, .int .i64 0, .slice none 0 0, .slice none 0 0, .slice none 0 0, .int .i64 0, .int .i64 0, .int .i64 0, .int .i64 0, .int .i64 0, .int .i64 0, .int .i64 0] 44) (fun W9 EV => ?_)
            have hkeep := EV.rangeMid 1 rfl 0 [.string x.j, .int .i64 x.per, .int .i64 x.book, .int .i64 x.perm, .int .i64 x.judge, .int .i64 x.cap, .int .i64 x.life, .int .i64 x.up] rfl
            refine hK.out _ _ ?_ (fun hHeld => ?_)
            · (try dsimp only)
              first | (exact hkeep) | (exact E3.drew.rangeMid 0 rfl 0 [.string x.j, .int .i64 x.per, .int .i64 x.book, .int .i64 x.perm, .int .i64 x.judge, .int .i64 x.cap, .int .i64 x.life, .int .i64 x.up] rfl)
            clear hK K
            try simp only [Act.put, List.setIfInBounds_toArray, List.set_cons_zero, List.set_cons_succ]
            refine wpAnyH_ready (rs := [12]) (by kernel_rfl) (by simp) ?_
            refine (AllReadyH.cons (by (simp only [List.getElem?_toArray, List.getElem?_cons_succ, List.getElem?_cons_zero]) <;> rfl) (fun K hK => ?_) AllReadyH.nil)
            refine wp_store_env EV 0 rfl 44 _ _ rfl 0 _ rfl rfl (by simp) (by kernel_rfl) (by simp [Value.oneCell']) (fun W10 EV => ?_)
            simp at EV
            have hkeep := EV.rangeMid 1 rfl 0 [.string x.j, .int .i64 x.per, .int .i64 x.book, .int .i64 x.perm, .int .i64 x.judge, .int .i64 x.cap, .int .i64 x.life, .int .i64 x.up] rfl
            refine hK.out _ _ ?_ (fun hHeld => ?_)
            · (try dsimp only)
              first | (exact hkeep) | (exact E3.drew.rangeMid 0 rfl 0 [.string x.j, .int .i64 x.per, .int .i64 x.book, .int .i64 x.perm, .int .i64 x.judge, .int .i64 x.cap, .int .i64 x.life, .int .i64 x.up] rfl)
            clear hK K
            try simp only [Act.put, List.setIfInBounds_toArray, List.set_cons_zero, List.set_cons_succ]
            refine take_on (i := 13) (by (simp only [List.getElem?_toArray, List.getElem?_cons_succ, List.getElem?_cons_zero]) <;> rfl) (by kernel_rfl) (by kernel_rfl) (by kernel_rfl) (by intro _ _ _ _ h; exact h) (by rfl) (by assumption) ?_
            apply Exists.intro
            refine ⟨?_, ?_⟩
            · intro W0 hSw
              try dsimp only at hSw
              go_simp
              try (with_reducible rfl)
            try simp only [Act.put, List.setIfInBounds_toArray, List.set_cons_zero, List.set_cons_succ]
            refine take_on (i := 14) (by (simp only [List.getElem?_toArray, List.getElem?_cons_succ, List.getElem?_cons_zero]) <;> rfl) (by kernel_rfl) (by kernel_rfl) (by kernel_rfl) (by intro _ _ _ _ h; exact h) (by rfl) (by assumption) ?_
            apply Exists.intro
            refine ⟨?_, ?_⟩
            · intro W0 hSw
              try dsimp only at hSw
              go_simp
              try (with_reducible rfl)
            try simp only [Act.put, List.setIfInBounds_toArray, List.set_cons_zero, List.set_cons_succ]
            refine wpAnyH_done (by kernel_rfl) ?_ _
            have c12 := EV.cell 0 rfl 40 rfl
            have c8 := EV.cell 0 rfl 8 rfl
            have c0 := EV.cell 0 rfl 0 rfl
            have ce := EV.cell 1 rfl 8 rfl
            have ED := (EV.drop 1).drop 0
            simp at ED
            clear EV
            go_wp2
            go_roundw
            case rel => exact ⟨q + 1, by omega, by go_num, ED⟩
            case measure => simp [intOf]; omega
          · go_simp
            refine abs_env (EV.box0 [.string ⟨#[]⟩, .int .i64 0, .int .i64 0, .int .i64 0, .int .i64 0, .int .i64 0, .int .i64 0, .int .i64 0, .int .i64 0, .int .i64 0, .slice none 0 0, .slice none 0 0, .int .i64 0, .int .i64 0, .int .i64 0, .int .i64 0, .int .i64 0, .int .i64 0, .slice none 0 0, .slice none 0 0, .int .i64 0, .int .i64 0, .int .i64 0, .int .i64 0, .int .i64 0, .int .i64 0, .int .i64 0, .int .i64 0, .int .i64 0, .int .i64 0, .int .i64 0, .slice none 0 0, .slice none 0 0, .slice none 0 0, .int .i64 0, .int .i64 0, .int .i64 0, .int .i64 0, .int .i64 0, .int .i64 0, .int .i64 0] 44) (fun W9 EV => ?_)
            have hkeep := EV.rangeMid 1 rfl 0 [.string x.j, .int .i64 x.per, .int .i64 x.book, .int .i64 x.perm, .int .i64 x.judge, .int .i64 x.cap, .int .i64 x.life, .int .i64 x.up] rfl
            refine hK.out _ _ ?_ (fun hHeld => ?_)
            · (try dsimp only)
              first | (exact hkeep) | (exact E3.drew.rangeMid 0 rfl 0 [.string x.j, .int .i64 x.per, .int .i64 x.book, .int .i64 x.perm, .int .i64 x.judge, .int .i64 x.cap, .int .i64 x.life, .int .i64 x.up] rfl)
            clear hK K
            try simp only [Act.put, List.setIfInBounds_toArray, List.set_cons_zero, List.set_cons_succ]
            refine wpAnyH_ready (rs := [6]) (by kernel_rfl) (by simp) ?_
            refine (AllReadyH.cons (by (simp only [List.getElem?_toArray, List.getElem?_cons_succ, List.getElem?_cons_zero]) <;> rfl) (fun K hK => ?_) AllReadyH.nil)
            go_simp
            refine (Mk.err (x := x) (o := balNone) (A := none) (B := none) (ca := 0) (cb := 0) (hx := Hp.none) (hs := Hp.none) EV g M H0 (EV.sub 3 rfl) (Hp.none_sub _) (Hp.none_sub _) (EV.sub 5 rfl) (EV.sub 4 rfl) ST.pt (Sl.none _ _) (Sl.none _ _) SV SR).mono ?_
            rintro e' w6 ⟨rfl, EV⟩
            have hkeep := EV.rangeMid 1 rfl 0 [.string x.j, .int .i64 x.per, .int .i64 x.book, .int .i64 x.perm, .int .i64 x.judge, .int .i64 x.cap, .int .i64 x.life, .int .i64 x.up] rfl
            go_wp2_with fail
            refine hK.out _ _ ?_ (fun hHeld => ?_)
            · (try dsimp only)
              first | (exact hkeep) | (exact E3.drew.rangeMid 0 rfl 0 [.string x.j, .int .i64 x.per, .int .i64 x.book, .int .i64 x.perm, .int .i64 x.judge, .int .i64 x.cap, .int .i64 x.life, .int .i64 x.up] rfl)
            clear hK K
            try simp only [Act.put, List.setIfInBounds_toArray, List.set_cons_zero, List.set_cons_succ]
            refine take_on (i := 7) (by (simp only [List.getElem?_toArray, List.getElem?_cons_succ, List.getElem?_cons_zero]) <;> rfl) (by kernel_rfl) (by kernel_rfl) (by kernel_rfl) (by intro _ _ _ _ h; exact h) (by rfl) (by assumption) ?_
            apply Exists.intro
            refine ⟨?_, ?_⟩
            · intro W0 hSw
              try dsimp only at hSw
              go_simp
              try (with_reducible rfl)
            try simp only [Act.put, List.setIfInBounds_toArray, List.set_cons_zero, List.set_cons_succ]
            refine take_on (i := 8) (by (simp only [List.getElem?_toArray, List.getElem?_cons_succ, List.getElem?_cons_zero]) <;> rfl) (by kernel_rfl) (by kernel_rfl) (by kernel_rfl) (by intro _ _ _ _ h; exact h) (by rfl) (by assumption) ?_
            apply Exists.intro
            refine ⟨?_, ?_⟩
            · intro W0 hSw
              try dsimp only at hSw
              go_simp
              try (with_reducible rfl)
            try simp only [Act.put, List.setIfInBounds_toArray, List.set_cons_zero, List.set_cons_succ]
            refine take_on (i := 9) (by (simp only [List.getElem?_toArray, List.getElem?_cons_succ, List.getElem?_cons_zero]) <;> rfl) (by kernel_rfl) (by kernel_rfl) (by kernel_rfl) (by intro _ _ _ _ h; exact h) (by rfl) (by assumption) ?_
            apply Exists.intro
            refine ⟨?_, ?_⟩
            · intro W0 hSw
              try dsimp only at hSw
              go_simp
              try (with_reducible rfl)
            try simp only [Act.put, List.setIfInBounds_toArray, List.set_cons_zero, List.set_cons_succ]
            refine take_on (i := 10) (by (simp only [List.getElem?_toArray, List.getElem?_cons_succ, List.getElem?_cons_zero]) <;> rfl) (by kernel_rfl) (by kernel_rfl) (by kernel_rfl) (by intro _ _ _ _ h; exact h) (by rfl) (by assumption) ?_
            apply Exists.intro
            refine ⟨?_, ?_⟩
            · intro W0 hSw
              try dsimp only at hSw
              go_simp
              try (with_reducible rfl)
            try simp only [Act.put, List.setIfInBounds_toArray, List.set_cons_zero, List.set_cons_succ]
            refine wpAnyH_ready (rs := [12]) (by kernel_rfl) (by simp) ?_
            refine (AllReadyH.cons (by (simp only [List.getElem?_toArray, List.getElem?_cons_succ, List.getElem?_cons_zero]) <;> rfl) (fun K hK => ?_) AllReadyH.nil)
            refine wp_store_env EV 0 rfl 44 _ _ rfl 0 _ rfl rfl (by simp) (by kernel_rfl) (by simp [Value.oneCell']) (fun W10 EV => ?_)
            simp at EV
            have hkeep := EV.rangeMid 1 rfl 0 [.string x.j, .int .i64 x.per, .int .i64 x.book, .int .i64 x.perm, .int .i64 x.judge, .int .i64 x.cap, .int .i64 x.life, .int .i64 x.up] rfl
            refine hK.out _ _ ?_ (fun hHeld => ?_)
            · (try dsimp only)
              first | (exact hkeep) | (exact E3.drew.rangeMid 0 rfl 0 [.string x.j, .int .i64 x.per, .int .i64 x.book, .int .i64 x.perm, .int .i64 x.judge, .int .i64 x.cap, .int .i64 x.life, .int .i64 x.up] rfl)
            clear hK K
            try simp only [Act.put, List.setIfInBounds_toArray, List.set_cons_zero, List.set_cons_succ]
            refine take_on (i := 13) (by (simp only [List.getElem?_toArray, List.getElem?_cons_succ, List.getElem?_cons_zero]) <;> rfl) (by kernel_rfl) (by kernel_rfl) (by kernel_rfl) (by intro _ _ _ _ h; exact h) (by rfl) (by assumption) ?_
            apply Exists.intro
            refine ⟨?_, ?_⟩
            · intro W0 hSw
              try dsimp only at hSw
              go_simp
              try (with_reducible rfl)
            try simp only [Act.put, List.setIfInBounds_toArray, List.set_cons_zero, List.set_cons_succ]
            refine take_on (i := 14) (by (simp only [List.getElem?_toArray, List.getElem?_cons_succ, List.getElem?_cons_zero]) <;> rfl) (by kernel_rfl) (by kernel_rfl) (by kernel_rfl) (by intro _ _ _ _ h; exact h) (by rfl) (by assumption) ?_
            apply Exists.intro
            refine ⟨?_, ?_⟩
            · intro W0 hSw
              try dsimp only at hSw
              go_simp
              try (with_reducible rfl)
            try simp only [Act.put, List.setIfInBounds_toArray, List.set_cons_zero, List.set_cons_succ]
            refine wpAnyH_done (by kernel_rfl) ?_ _
            have c12 := EV.cell 0 rfl 40 rfl
            have c8 := EV.cell 0 rfl 8 rfl
            have c0 := EV.cell 0 rfl 0 rfl
            have ce := EV.cell 1 rfl 8 rfl
            have ED := (EV.drop 1).drop 0
            simp at ED
            clear EV
            go_wp2
            go_roundw
            case rel => exact ⟨q + 1, by omega, by go_num, ED⟩
            case measure => simp [intOf]; omega
        · go_simp
          refine abs_env (EV.box0 [.string ⟨#[]⟩, .int .i64 0, .int .i64 0, .int .i64 0, .int .i64 0, .int .i64 0, .int .i64 0, .int .i64 0, .int .i64 0, .int .i64 0, .slice none 0 0, .slice none 0 0, .int .i64 0, .int .i64 0, .int .i64 0, .int .i64 0, .int .i64 0, .int .i64 0, .slice none 0 0, .slice none 0 0, .int .i64 0, .int .i64 0, .int .i64 0, .int .i64 0, .int .i64 0, .int .i64 0, .int .i64 0, .int .i64 0, .int .i64 0, .int .i64 0, .int .i64 0, .slice none 0 0, .slice none 0 0, .slice none 0 0, .int .i64 0, .int .i64 0, .int .i64 0, .int .i64 0, .int .i64 0, .int .i64 0, .int .i64 0] 44) (fun W9 EV => ?_)
          have hkeep := EV.rangeMid 1 rfl 0 [.string x.j, .int .i64 x.per, .int .i64 x.book, .int .i64 x.perm, .int .i64 x.judge, .int .i64 x.cap, .int .i64 x.life, .int .i64 x.up] rfl
          refine hK.out _ _ ?_ (fun hHeld => ?_)
          · (try dsimp only)
            first | (exact hkeep) | (exact E3.drew.rangeMid 0 rfl 0 [.string x.j, .int .i64 x.per, .int .i64 x.book, .int .i64 x.perm, .int .i64 x.judge, .int .i64 x.cap, .int .i64 x.life, .int .i64 x.up] rfl)
          clear hK K
          try simp only [Act.put, List.setIfInBounds_toArray, List.set_cons_zero, List.set_cons_succ]
          refine wpAnyH_ready (rs := [3]) (by kernel_rfl) (by simp) ?_
          refine (AllReadyH.cons (by (simp only [List.getElem?_toArray, List.getElem?_cons_succ, List.getElem?_cons_zero]) <;> rfl) (fun K hK => ?_) AllReadyH.nil)
          go_simp
          refine (closingNone_calls _).mono ?_
          rintro e' w5 ⟨rfl, B5⟩
          replace EV := EV.below B5
          have hkeep := EV.rangeMid 1 rfl 0 [.string x.j, .int .i64 x.per, .int .i64 x.book, .int .i64 x.perm, .int .i64 x.judge, .int .i64 x.cap, .int .i64 x.life, .int .i64 x.up] rfl
          go_wp2_with fail
          refine hK.out _ _ ?_ (fun hHeld => ?_)
          · (try dsimp only)
            first | (exact hkeep) | (exact E3.drew.rangeMid 0 rfl 0 [.string x.j, .int .i64 x.per, .int .i64 x.book, .int .i64 x.perm, .int .i64 x.judge, .int .i64 x.cap, .int .i64 x.life, .int .i64 x.up] rfl)
          clear hK K
          try simp only [Act.put, List.setIfInBounds_toArray, List.set_cons_zero, List.set_cons_succ]
          refine wpAnyH_ready (rs := [6]) (by kernel_rfl) (by simp) ?_
          refine (AllReadyH.cons (by (simp only [List.getElem?_toArray, List.getElem?_cons_succ, List.getElem?_cons_zero]) <;> rfl) (fun K hK => ?_) AllReadyH.nil)
          go_simp
          refine (Mk.err (x := x) (o := balNone) (A := none) (B := none) (ca := 0) (cb := 0) (hx := Hp.none) (hs := Hp.none) EV g M H0 (EV.sub 3 rfl) (Hp.none_sub _) (Hp.none_sub _) (EV.sub 5 rfl) (EV.sub 4 rfl) ST.pt (Sl.none _ _) (Sl.none _ _) SV SR).mono ?_
          rintro e' w6 ⟨rfl, EV⟩
          have hkeep := EV.rangeMid 1 rfl 0 [.string x.j, .int .i64 x.per, .int .i64 x.book, .int .i64 x.perm, .int .i64 x.judge, .int .i64 x.cap, .int .i64 x.life, .int .i64 x.up] rfl
          go_wp2_with fail
          refine hK.out _ _ ?_ (fun hHeld => ?_)
          · (try dsimp only)
            first | (exact hkeep) | (exact E3.drew.rangeMid 0 rfl 0 [.string x.j, .int .i64 x.per, .int .i64 x.book, .int .i64 x.perm, .int .i64 x.judge, .int .i64 x.cap, .int .i64 x.life, .int .i64 x.up] rfl)
          clear hK K
          try simp only [Act.put, List.setIfInBounds_toArray, List.set_cons_zero, List.set_cons_succ]
          refine take_on (i := 7) (by (simp only [List.getElem?_toArray, List.getElem?_cons_succ, List.getElem?_cons_zero]) <;> rfl) (by kernel_rfl) (by kernel_rfl) (by kernel_rfl) (by intro _ _ _ _ h; exact h) (by rfl) (by assumption) ?_
          apply Exists.intro
          refine ⟨?_, ?_⟩
          · intro W0 hSw
            try dsimp only at hSw
            go_simp
            try (with_reducible rfl)
          try simp only [Act.put, List.setIfInBounds_toArray, List.set_cons_zero, List.set_cons_succ]
          refine take_on (i := 8) (by (simp only [List.getElem?_toArray, List.getElem?_cons_succ, List.getElem?_cons_zero]) <;> rfl) (by kernel_rfl) (by kernel_rfl) (by kernel_rfl) (by intro _ _ _ _ h; exact h) (by rfl) (by assumption) ?_
          apply Exists.intro
          refine ⟨?_, ?_⟩
          · intro W0 hSw
            try dsimp only at hSw
            go_simp
            try (with_reducible rfl)
          try simp only [Act.put, List.setIfInBounds_toArray, List.set_cons_zero, List.set_cons_succ]
          refine take_on (i := 9) (by (simp only [List.getElem?_toArray, List.getElem?_cons_succ, List.getElem?_cons_zero]) <;> rfl) (by kernel_rfl) (by kernel_rfl) (by kernel_rfl) (by intro _ _ _ _ h; exact h) (by rfl) (by assumption) ?_
          apply Exists.intro
          refine ⟨?_, ?_⟩
          · intro W0 hSw
            try dsimp only at hSw
            go_simp
            try (with_reducible rfl)
          try simp only [Act.put, List.setIfInBounds_toArray, List.set_cons_zero, List.set_cons_succ]
          refine take_on (i := 10) (by (simp only [List.getElem?_toArray, List.getElem?_cons_succ, List.getElem?_cons_zero]) <;> rfl) (by kernel_rfl) (by kernel_rfl) (by kernel_rfl) (by intro _ _ _ _ h; exact h) (by rfl) (by assumption) ?_
          apply Exists.intro
          refine ⟨?_, ?_⟩
          · intro W0 hSw
            try dsimp only at hSw
            go_simp
            try (with_reducible rfl)
          try simp only [Act.put, List.setIfInBounds_toArray, List.set_cons_zero, List.set_cons_succ]
          refine wpAnyH_ready (rs := [12]) (by kernel_rfl) (by simp) ?_
          refine (AllReadyH.cons (by (simp only [List.getElem?_toArray, List.getElem?_cons_succ, List.getElem?_cons_zero]) <;> rfl) (fun K hK => ?_) AllReadyH.nil)
          refine wp_store_env EV 0 rfl 44 _ _ rfl 0 _ rfl rfl (by simp) (by kernel_rfl) (by simp [Value.oneCell']) (fun W10 EV => ?_)
          simp at EV
          have hkeep := EV.rangeMid 1 rfl 0 [.string x.j, .int .i64 x.per, .int .i64 x.book, .int .i64 x.perm, .int .i64 x.judge, .int .i64 x.cap, .int .i64 x.life, .int .i64 x.up] rfl
          refine hK.out _ _ ?_ (fun hHeld => ?_)
          · (try dsimp only)
            first | (exact hkeep) | (exact E3.drew.rangeMid 0 rfl 0 [.string x.j, .int .i64 x.per, .int .i64 x.book, .int .i64 x.perm, .int .i64 x.judge, .int .i64 x.cap, .int .i64 x.life, .int .i64 x.up] rfl)
          clear hK K
          try simp only [Act.put, List.setIfInBounds_toArray, List.set_cons_zero, List.set_cons_succ]
          refine take_on (i := 13) (by (simp only [List.getElem?_toArray, List.getElem?_cons_succ, List.getElem?_cons_zero]) <;> rfl) (by kernel_rfl) (by kernel_rfl) (by kernel_rfl) (by intro _ _ _ _ h; exact h) (by rfl) (by assumption) ?_
          apply Exists.intro
          refine ⟨?_, ?_⟩
          · intro W0 hSw
            try dsimp only at hSw
            go_simp
            try (with_reducible rfl)
          try simp only [Act.put, List.setIfInBounds_toArray, List.set_cons_zero, List.set_cons_succ]
          refine take_on (i := 14) (by (simp only [List.getElem?_toArray, List.getElem?_cons_succ, List.getElem?_cons_zero]) <;> rfl) (by kernel_rfl) (by kernel_rfl) (by kernel_rfl) (by intro _ _ _ _ h; exact h) (by rfl) (by assumption) ?_
          apply Exists.intro
          refine ⟨?_, ?_⟩
          · intro W0 hSw
            try dsimp only at hSw
            go_simp
            try (with_reducible rfl)
          try simp only [Act.put, List.setIfInBounds_toArray, List.set_cons_zero, List.set_cons_succ]
          refine wpAnyH_done (by kernel_rfl) ?_ _
          have c12 := EV.cell 0 rfl 40 rfl
          have c8 := EV.cell 0 rfl 8 rfl
          have c0 := EV.cell 0 rfl 0 rfl
          have ce := EV.cell 1 rfl 8 rfl
          have ED := (EV.drop 1).drop 0
          simp at ED
          clear EV
          go_wp2
          go_roundw
          case rel => exact ⟨q + 1, by omega, by go_num, ED⟩
          case measure => simp [intOf]; omega
      · subst h0
        obtain ⟨u, hu⟩ : ∃ u, Hid ((⟨twoT, x, balNone, [], []⟩ : SArg).out = u) := ⟨_, rfl⟩
        refine wp_region_held_drew (S := (fun V => V.rangeAt b8 0 [.string x.j, .int .i64 x.per, .int .i64 x.book, .int .i64 x.perm, .int .i64 x.judge, .int .i64 x.cap, .int .i64 x.life, .int .i64 x.up])) (by kernel_rfl) ?_ (fun hHeld => ?_)
        · (try dsimp only)
          first | (exact E3.drew.rangeMid 0 rfl 0 [.string x.j, .int .i64 x.per, .int .i64 x.book, .int .i64 x.perm, .int .i64 x.judge, .int .i64 x.cap, .int .i64 x.life, .int .i64 x.up] rfl)
        refine take_on (i := 0) (by (simp only [List.getElem?_toArray, List.getElem?_cons_succ, List.getElem?_cons_zero]) <;> rfl) (by kernel_rfl) (by kernel_rfl) (by kernel_rfl) (by intro _ _ _ _ h; exact h) (by rfl) (by assumption) ?_
        apply Exists.intro
        refine ⟨?_, ?_⟩
        · intro W0 hSw
          try dsimp only at hSw
          go_simp
          try (with_reducible rfl)
        try simp only [Act.put, List.setIfInBounds_toArray, List.set_cons_zero, List.set_cons_succ]
        refine take_on (i := 1) (by (simp only [List.getElem?_toArray, List.getElem?_cons_succ, List.getElem?_cons_zero]) <;> rfl) (by kernel_rfl) (by kernel_rfl) (by kernel_rfl) (by intro _ _ _ _ h; exact h) (by rfl) (by assumption) ?_
        apply Exists.intro
        refine ⟨?_, ?_⟩
        · intro W0 hSw
          try dsimp only at hSw
          go_simp
          try (with_reducible rfl)
        try simp only [Act.put, List.setIfInBounds_toArray, List.set_cons_zero, List.set_cons_succ]
        refine take_on (i := 2) (by (simp only [List.getElem?_toArray, List.getElem?_cons_succ, List.getElem?_cons_zero]) <;> rfl) (by kernel_rfl) (by kernel_rfl) (by kernel_rfl) (by intro _ _ _ _ h; exact h) (by rfl) (by assumption) ⟨_, fun W0 hSw => exec_load_mid 31 _ rfl b8 0 rfl [.string x.j, .int .i64 x.per, .int .i64 x.book, .int .i64 x.perm, .int .i64 x.judge, .int .i64 x.cap, .int .i64 x.life, .int .i64 x.up] _ W0 (hSw) Tryz.underlying31 rfl (by kernel_rfl), ?_⟩
        try simp only [Act.put, List.setIfInBounds_toArray, List.set_cons_zero, List.set_cons_succ]
        refine take_on (i := 4) (by (simp only [List.getElem?_toArray, List.getElem?_cons_succ, List.getElem?_cons_zero]) <;> rfl) (by kernel_rfl) (by kernel_rfl) (by kernel_rfl) (by intro _ _ _ _ h; exact h) (by rfl) (by assumption) ?_
        apply Exists.intro
        refine ⟨?_, ?_⟩
        · intro W0 hSw
          try dsimp only at hSw
          go_simp
          try (with_reducible rfl)
        try simp only [Act.put, List.setIfInBounds_toArray, List.set_cons_zero, List.set_cons_succ]
        refine take_on (i := 5) (by (simp only [List.getElem?_toArray, List.getElem?_cons_succ, List.getElem?_cons_zero]) <;> rfl) (by kernel_rfl) (by kernel_rfl) (by kernel_rfl) (by intro _ _ _ _ h; exact h) (by rfl) (by assumption) ?_
        apply Exists.intro
        refine ⟨?_, ?_⟩
        · intro W0 hSw
          try dsimp only at hSw
          go_simp
          try (with_reducible rfl)
        try simp only [Act.put, List.setIfInBounds_toArray, List.set_cons_zero, List.set_cons_succ]
        refine wpAnyH_ready (rs := [3, 11]) (by kernel_rfl) (by simp) ?_
        refine (AllReadyH.cons (by (simp only [List.getElem?_toArray, List.getElem?_cons_succ, List.getElem?_cons_zero]) <;> rfl) (fun K hK => ?_) (AllReadyH.cons (by (simp only [List.getElem?_toArray, List.getElem?_cons_succ, List.getElem?_cons_zero]) <;> rfl) (fun K hK => ?_) AllReadyH.nil))
        · go_simp
          refine (closingNone_calls _).mono ?_
          rintro e' w5 ⟨rfl, B5⟩
          replace EV := EV.below B5
          have hkeep := EV.rangeMid 0 rfl 0 [.string x.j, .int .i64 x.per, .int .i64 x.book, .int .i64 x.perm, .int .i64 x.judge, .int .i64 x.cap, .int .i64 x.life, .int .i64 x.up] rfl
          go_wp2_with fail
          refine hK.out _ _ ?_ (fun hHeld => ?_)
          · (try dsimp only)
            first | (exact hkeep) | (exact E3.drew.rangeMid 0 rfl 0 [.string x.j, .int .i64 x.per, .int .i64 x.book, .int .i64 x.perm, .int .i64 x.judge, .int .i64 x.cap, .int .i64 x.life, .int .i64 x.up] rfl)
          clear hK K
          try simp only [Act.put, List.setIfInBounds_toArray, List.set_cons_zero, List.set_cons_succ]
          refine wpAnyH_ready (rs := [6, 11]) (by kernel_rfl) (by simp) ?_
          refine (AllReadyH.cons (by (simp only [List.getElem?_toArray, List.getElem?_cons_succ, List.getElem?_cons_zero]) <;> rfl) (fun K hK => ?_) (AllReadyH.cons (by (simp only [List.getElem?_toArray, List.getElem?_cons_succ, List.getElem?_cons_zero]) <;> rfl) (fun K hK => ?_) AllReadyH.nil))
          · go_simp
            refine (Mk.ok (x := x) (o := balNone) (A := none) (B := none) (ca := 0) (cb := 0) (hx := Hp.none) (hs := Hp.none) EV g M hu (EV.sub 2 rfl) (Hp.none_sub _) (Hp.none_sub _) (EV.sub 4 rfl) (EV.sub 3 rfl) ST.pt (Sl.none _ _) (Sl.none _ _) SV SR).mono ?_
            rintro e' w6 ⟨h6, hl, bl, D, cd, G, cg, Rr, cr, Q, cq, V', cv, C, cw, N, cn, rfl, _, _, _, _, _, _, _, _, EV⟩
            simp at EV
            have hkeep := EV.rangeMid 0 rfl 0 [.string x.j, .int .i64 x.per, .int .i64 x.book, .int .i64 x.perm, .int .i64 x.judge, .int .i64 x.cap, .int .i64 x.life, .int .i64 x.up] rfl
            go_wp2_with fail
            refine hK.out _ _ ?_ (fun hHeld => ?_)
            · (try dsimp only)
              first | (exact hkeep) | (exact E3.drew.rangeMid 0 rfl 0 [.string x.j, .int .i64 x.per, .int .i64 x.book, .int .i64 x.perm, .int .i64 x.judge, .int .i64 x.cap, .int .i64 x.life, .int .i64 x.up] rfl)
            clear hK K
            try simp only [Act.put, List.setIfInBounds_toArray, List.set_cons_zero, List.set_cons_succ]
            refine take_on (i := 7) (by (simp only [List.getElem?_toArray, List.getElem?_cons_succ, List.getElem?_cons_zero]) <;> rfl) (by kernel_rfl) (by kernel_rfl) (by kernel_rfl) (by intro _ _ _ _ h; exact h) (by rfl) (by assumption) ?_
            apply Exists.intro
            refine ⟨?_, ?_⟩
            · intro W0 hSw
              try dsimp only at hSw
              go_simp
              try (with_reducible rfl)
            try simp only [Act.put, List.setIfInBounds_toArray, List.set_cons_zero, List.set_cons_succ]
            refine take_on (i := 8) (by (simp only [List.getElem?_toArray, List.getElem?_cons_succ, List.getElem?_cons_zero]) <;> rfl) (by kernel_rfl) (by kernel_rfl) (by kernel_rfl) (by intro _ _ _ _ h; exact h) (by rfl) (by assumption) ?_
            apply Exists.intro
            refine ⟨?_, ?_⟩
            · intro W0 hSw
              try dsimp only at hSw
              go_simp
              try (with_reducible rfl)
            try simp only [Act.put, List.setIfInBounds_toArray, List.set_cons_zero, List.set_cons_succ]
            refine take_on (i := 9) (by (simp only [List.getElem?_toArray, List.getElem?_cons_succ, List.getElem?_cons_zero]) <;> rfl) (by kernel_rfl) (by kernel_rfl) (by kernel_rfl) (by intro _ _ _ _ h; exact h) (by rfl) (by assumption) ?_
            apply Exists.intro
            refine ⟨?_, ?_⟩
            · intro W0 hSw
              try dsimp only at hSw
              go_simp
              try (with_reducible rfl)
            try simp only [Act.put, List.setIfInBounds_toArray, List.set_cons_zero, List.set_cons_succ]
            refine take_on (i := 10) (by (simp only [List.getElem?_toArray, List.getElem?_cons_succ, List.getElem?_cons_zero]) <;> rfl) (by kernel_rfl) (by kernel_rfl) (by kernel_rfl) (by intro _ _ _ _ h; exact h) (by rfl) (by assumption) ?_
            apply Exists.intro
            refine ⟨?_, ?_⟩
            · intro W0 hSw
              try dsimp only at hSw
              go_simp
              try (with_reducible rfl)
            try simp only [Act.put, List.setIfInBounds_toArray, List.set_cons_zero, List.set_cons_succ]
            refine wpAnyH_ready (rs := [11]) (by kernel_rfl) (by simp) ?_
            refine (AllReadyH.cons (by (simp only [List.getElem?_toArray, List.getElem?_cons_succ, List.getElem?_cons_zero]) <;> rfl) (fun K hK => ?_) AllReadyH.nil)
            go_simp
            refine abs_env (EV.box0 [.string ⟨#[]⟩, .int .i64 0, .int .i64 0, .int .i64 0, .int .i64 0, .int .i64 0, .int .i64 0, .int .i64 0, .int .i64 0, .int .i64 0, .slice none 0 0, .slice none 0 0, .int .i64 0, .int .i64 0, .int .i64 0, .int .i64 0, .int .i64 0, .int .i64 0, .slice none 0 0, .slice none 0 0, .int .i64 0, .int .i64 0, .int .i64 0, .int .i64 0, .int .i64 0, .int .i64 0, .int .i64 0, .int .i64 0, .int .i64 0, .int .i64 0, .int .i64 0, .slice none 0 0, .slice none 0 0, .slice none 0 0, .int .i64 0, .int .i64 0, .int .i64 0, .int .i64 0, .int .i64 0, .int .i64 0, .int .i64 0] 44) (fun W9 EV => ?_)
            have hkeep := EV.rangeMid 1 rfl 0 [.string x.j, .int .i64 x.per, .int .i64 x.book, .int .i64 x.perm, .int .i64 x.judge, .int .i64 x.cap, .int .i64 x.life, .int .i64 x.up] rfl
            refine hK.out _ _ ?_ (fun hHeld => ?_)
            · (try dsimp only)
              first | (exact hkeep) | (exact E3.drew.rangeMid 0 rfl 0 [.string x.j, .int .i64 x.per, .int .i64 x.book, .int .i64 x.perm, .int .i64 x.judge, .int .i64 x.cap, .int .i64 x.life, .int .i64 x.up] rfl)
            clear hK K
            try simp only [Act.put, List.setIfInBounds_toArray, List.set_cons_zero, List.set_cons_succ]
            refine wpAnyH_ready (rs := [12]) (by kernel_rfl) (by simp) ?_
            refine (AllReadyH.cons (by (simp only [List.getElem?_toArray, List.getElem?_cons_succ, List.getElem?_cons_zero]) <;> rfl) (fun K hK => ?_) AllReadyH.nil)
            refine wp_store_env EV 0 rfl 44 _ _ rfl 0 _ rfl rfl (by simp) (by kernel_rfl) (by simp [Value.oneCell']) (fun W10 EV => ?_)
            simp at EV
            have hkeep := EV.rangeMid 1 rfl 0 [.string x.j, .int .i64 x.per, .int .i64 x.book, .int .i64 x.perm, .int .i64 x.judge, .int .i64 x.cap, .int .i64 x.life, .int .i64 x.up] rfl
            refine hK.out _ _ ?_ (fun hHeld => ?_)
            · (try dsimp only)
              first | (exact hkeep) | (exact E3.drew.rangeMid 0 rfl 0 [.string x.j, .int .i64 x.per, .int .i64 x.book, .int .i64 x.perm, .int .i64 x.judge, .int .i64 x.cap, .int .i64 x.life, .int .i64 x.up] rfl)
            clear hK K
            try simp only [Act.put, List.setIfInBounds_toArray, List.set_cons_zero, List.set_cons_succ]
            refine take_on (i := 13) (by (simp only [List.getElem?_toArray, List.getElem?_cons_succ, List.getElem?_cons_zero]) <;> rfl) (by kernel_rfl) (by kernel_rfl) (by kernel_rfl) (by intro _ _ _ _ h; exact h) (by rfl) (by assumption) ?_
            apply Exists.intro
            refine ⟨?_, ?_⟩
            · intro W0 hSw
              try dsimp only at hSw
              go_simp
              try (with_reducible rfl)
            try simp only [Act.put, List.setIfInBounds_toArray, List.set_cons_zero, List.set_cons_succ]
            refine take_on (i := 14) (by (simp only [List.getElem?_toArray, List.getElem?_cons_succ, List.getElem?_cons_zero]) <;> rfl) (by kernel_rfl) (by kernel_rfl) (by kernel_rfl) (by intro _ _ _ _ h; exact h) (by rfl) (by assumption) ?_
            apply Exists.intro
            refine ⟨?_, ?_⟩
            · intro W0 hSw
              try dsimp only at hSw
              go_simp
              try (with_reducible rfl)
            try simp only [Act.put, List.setIfInBounds_toArray, List.set_cons_zero, List.set_cons_succ]
            refine wpAnyH_done (by kernel_rfl) ?_ _
            have c12 := EV.cell 0 rfl 40 rfl
            have c8 := EV.cell 0 rfl 8 rfl
            have c0 := EV.cell 0 rfl 0 rfl
            have ce := EV.cell 1 rfl 8 rfl
            have ED := (((EV.drop 7).drop 6).drop 1).drop 0
            simp at ED
            clear EV
            go_wp2
            go_roundw
            case rel => exact ⟨q + 1, by omega, by go_num, ED⟩
            case measure => simp [intOf]; omega
          · go_simp
            refine abs_env (EV.box0 [.string ⟨#[]⟩, .int .i64 0, .int .i64 0, .int .i64 0, .int .i64 0, .int .i64 0, .int .i64 0, .int .i64 0, .int .i64 0, .int .i64 0, .slice none 0 0, .slice none 0 0, .int .i64 0, .int .i64 0, .int .i64 0, .int .i64 0, .int .i64 0, .int .i64 0, .slice none 0 0, .slice none 0 0, .int .i64 0, .int .i64 0, .int .i64 0, .int .i64 0, .int .i64 0, .int .i64 0, .int .i64 0, .int .i64 0, .int .i64 0, .int .i64 0, .int .i64 0, .slice none 0 0, .slice none 0 0, .slice none 0 0, .int .i64 0, .int .i64 0, .int .i64 0, .int .i64 0, .int .i64 0, .int .i64 0, .int .i64 0] 44) (fun W9 EV => ?_)
            have hkeep := EV.rangeMid 1 rfl 0 [.string x.j, .int .i64 x.per, .int .i64 x.book, .int .i64 x.perm, .int .i64 x.judge, .int .i64 x.cap, .int .i64 x.life, .int .i64 x.up] rfl
            refine hK.out _ _ ?_ (fun hHeld => ?_)
            · (try dsimp only)
              first | (exact hkeep) | (exact E3.drew.rangeMid 0 rfl 0 [.string x.j, .int .i64 x.per, .int .i64 x.book, .int .i64 x.perm, .int .i64 x.judge, .int .i64 x.cap, .int .i64 x.life, .int .i64 x.up] rfl)
            clear hK K
            try simp only [Act.put, List.setIfInBounds_toArray, List.set_cons_zero, List.set_cons_succ]
            refine wpAnyH_ready (rs := [6]) (by kernel_rfl) (by simp) ?_
            refine (AllReadyH.cons (by (simp only [List.getElem?_toArray, List.getElem?_cons_succ, List.getElem?_cons_zero]) <;> rfl) (fun K hK => ?_) AllReadyH.nil)
            go_simp
            refine (Mk.ok (x := x) (o := balNone) (A := none) (B := none) (ca := 0) (cb := 0) (hx := Hp.none) (hs := Hp.none) EV g M hu (EV.sub 3 rfl) (Hp.none_sub _) (Hp.none_sub _) (EV.sub 5 rfl) (EV.sub 4 rfl) ST.pt (Sl.none _ _) (Sl.none _ _) SV SR).mono ?_
            rintro e' w6 ⟨h6, hl, bl, D, cd, G, cg, Rr, cr, Q, cq, V', cv, C, cw, N, cn, rfl, _, _, _, _, _, _, _, _, EV⟩
            simp at EV
            have hkeep := EV.rangeMid 1 rfl 0 [.string x.j, .int .i64 x.per, .int .i64 x.book, .int .i64 x.perm, .int .i64 x.judge, .int .i64 x.cap, .int .i64 x.life, .int .i64 x.up] rfl
            go_wp2_with fail
            refine hK.out _ _ ?_ (fun hHeld => ?_)
            · (try dsimp only)
              first | (exact hkeep) | (exact E3.drew.rangeMid 0 rfl 0 [.string x.j, .int .i64 x.per, .int .i64 x.book, .int .i64 x.perm, .int .i64 x.judge, .int .i64 x.cap, .int .i64 x.life, .int .i64 x.up] rfl)
            clear hK K
            try simp only [Act.put, List.setIfInBounds_toArray, List.set_cons_zero, List.set_cons_succ]
            refine take_on (i := 7) (by (simp only [List.getElem?_toArray, List.getElem?_cons_succ, List.getElem?_cons_zero]) <;> rfl) (by kernel_rfl) (by kernel_rfl) (by kernel_rfl) (by intro _ _ _ _ h; exact h) (by rfl) (by assumption) ?_
            apply Exists.intro
            refine ⟨?_, ?_⟩
            · intro W0 hSw
              try dsimp only at hSw
              go_simp
              try (with_reducible rfl)
            try simp only [Act.put, List.setIfInBounds_toArray, List.set_cons_zero, List.set_cons_succ]
            refine take_on (i := 8) (by (simp only [List.getElem?_toArray, List.getElem?_cons_succ, List.getElem?_cons_zero]) <;> rfl) (by kernel_rfl) (by kernel_rfl) (by kernel_rfl) (by intro _ _ _ _ h; exact h) (by rfl) (by assumption) ?_
            apply Exists.intro
            refine ⟨?_, ?_⟩
            · intro W0 hSw
              try dsimp only at hSw
              go_simp
              try (with_reducible rfl)
            try simp only [Act.put, List.setIfInBounds_toArray, List.set_cons_zero, List.set_cons_succ]
            refine take_on (i := 9) (by (simp only [List.getElem?_toArray, List.getElem?_cons_succ, List.getElem?_cons_zero]) <;> rfl) (by kernel_rfl) (by kernel_rfl) (by kernel_rfl) (by intro _ _ _ _ h; exact h) (by rfl) (by assumption) ?_
            apply Exists.intro
            refine ⟨?_, ?_⟩
            · intro W0 hSw
              try dsimp only at hSw
              go_simp
              try (with_reducible rfl)
            try simp only [Act.put, List.setIfInBounds_toArray, List.set_cons_zero, List.set_cons_succ]
            refine take_on (i := 10) (by (simp only [List.getElem?_toArray, List.getElem?_cons_succ, List.getElem?_cons_zero]) <;> rfl) (by kernel_rfl) (by kernel_rfl) (by kernel_rfl) (by intro _ _ _ _ h; exact h) (by rfl) (by assumption) ?_
            apply Exists.intro
            refine ⟨?_, ?_⟩
            · intro W0 hSw
              try dsimp only at hSw
              go_simp
              try (with_reducible rfl)
            try simp only [Act.put, List.setIfInBounds_toArray, List.set_cons_zero, List.set_cons_succ]
            refine wpAnyH_ready (rs := [12]) (by kernel_rfl) (by simp) ?_
            refine (AllReadyH.cons (by (simp only [List.getElem?_toArray, List.getElem?_cons_succ, List.getElem?_cons_zero]) <;> rfl) (fun K hK => ?_) AllReadyH.nil)
            refine wp_store_env EV 0 rfl 44 _ _ rfl 0 _ rfl rfl (by simp) (by kernel_rfl) (by simp [Value.oneCell']) (fun W10 EV => ?_)
            simp at EV
            have hkeep := EV.rangeMid 1 rfl 0 [.string x.j, .int .i64 x.per, .int .i64 x.book, .int .i64 x.perm, .int .i64 x.judge, .int .i64 x.cap, .int .i64 x.life, .int .i64 x.up] rfl
            refine hK.out _ _ ?_ (fun hHeld => ?_)
            · (try dsimp only)
              first | (exact hkeep) | (exact E3.drew.rangeMid 0 rfl 0 [.string x.j, .int .i64 x.per, .int .i64 x.book, .int .i64 x.perm, .int .i64 x.judge, .int .i64 x.cap, .int .i64 x.life, .int .i64 x.up] rfl)
            clear hK K
            try simp only [Act.put, List.setIfInBounds_toArray, List.set_cons_zero, List.set_cons_succ]
            refine take_on (i := 13) (by (simp only [List.getElem?_toArray, List.getElem?_cons_succ, List.getElem?_cons_zero]) <;> rfl) (by kernel_rfl) (by kernel_rfl) (by kernel_rfl) (by intro _ _ _ _ h; exact h) (by rfl) (by assumption) ?_
            apply Exists.intro
            refine ⟨?_, ?_⟩
            · intro W0 hSw
              try dsimp only at hSw
              go_simp
              try (with_reducible rfl)
            try simp only [Act.put, List.setIfInBounds_toArray, List.set_cons_zero, List.set_cons_succ]
            refine take_on (i := 14) (by (simp only [List.getElem?_toArray, List.getElem?_cons_succ, List.getElem?_cons_zero]) <;> rfl) (by kernel_rfl) (by kernel_rfl) (by kernel_rfl) (by intro _ _ _ _ h; exact h) (by rfl) (by assumption) ?_
            apply Exists.intro
            refine ⟨?_, ?_⟩
            · intro W0 hSw
              try dsimp only at hSw
              go_simp
              try (with_reducible rfl)
            try simp only [Act.put, List.setIfInBounds_toArray, List.set_cons_zero, List.set_cons_succ]
            refine wpAnyH_done (by kernel_rfl) ?_ _
            have c12 := EV.cell 0 rfl 40 rfl
            have c8 := EV.cell 0 rfl 8 rfl
            have c0 := EV.cell 0 rfl 0 rfl
            have ce := EV.cell 1 rfl 8 rfl
            have ED := (((EV.drop 7).drop 6).drop 1).drop 0
            simp at ED
            clear EV
            go_wp2
            go_roundw
            case rel => exact ⟨q + 1, by omega, by go_num, ED⟩
            case measure => simp [intOf]; omega
        · go_simp
          refine abs_env (EV.box0 [.string ⟨#[]⟩, .int .i64 0, .int .i64 0, .int .i64 0, .int .i64 0, .int .i64 0, .int .i64 0, .int .i64 0, .int .i64 0, .int .i64 0, .slice none 0 0, .slice none 0 0, .int .i64 0, .int .i64 0, .int .i64 0, .int .i64 0, .int .i64 0, .int .i64 0, .slice none 0 0, .slice none 0 0, .int .i64 0, .int .i64 0, .int .i64 0, .int .i64 0, .int .i64 0, .int .i64 0, .int .i64 0, .int .i64 0, .int .i64 0, .int .i64 0, .int .i64 0, .slice none 0 0, .slice none 0 0, .slice none 0 0, .int .i64 0, .int .i64 0, .int .i64 0, .int .i64 0, .int .i64 0, .int .i64 0, .int .i64 0] 44) (fun W9 EV => ?_)
          have hkeep := EV.rangeMid 1 rfl 0 [.string x.j, .int .i64 x.per, .int .i64 x.book, .int .i64 x.perm, .int .i64 x.judge, .int .i64 x.cap, .int .i64 x.life, .int .i64 x.up] rfl
          refine hK.out _ _ ?_ (fun hHeld => ?_)
          · (try dsimp only)
            first | (exact hkeep) | (exact E3.drew.rangeMid 0 rfl 0 [.string x.j, .int .i64 x.per, .int .i64 x.book, .int .i64 x.perm, .int .i64 x.judge, .int .i64 x.cap, .int .i64 x.life, .int .i64 x.up] rfl)
          clear hK K
          try simp only [Act.put, List.setIfInBounds_toArray, List.set_cons_zero, List.set_cons_succ]
          refine wpAnyH_ready (rs := [3]) (by kernel_rfl) (by simp) ?_
          refine (AllReadyH.cons (by (simp only [List.getElem?_toArray, List.getElem?_cons_succ, List.getElem?_cons_zero]) <;> rfl) (fun K hK => ?_) AllReadyH.nil)
          go_simp
          refine (closingNone_calls _).mono ?_
          rintro e' w5 ⟨rfl, B5⟩
          replace EV := EV.below B5
          have hkeep := EV.rangeMid 1 rfl 0 [.string x.j, .int .i64 x.per, .int .i64 x.book, .int .i64 x.perm, .int .i64 x.judge, .int .i64 x.cap, .int .i64 x.life, .int .i64 x.up] rfl
          go_wp2_with fail
          refine hK.out _ _ ?_ (fun hHeld => ?_)
          · (try dsimp only)
            first | (exact hkeep) | (exact E3.drew.rangeMid 0 rfl 0 [.string x.j, .int .i64 x.per, .int .i64 x.book, .int .i64 x.perm, .int .i64 x.judge, .int .i64 x.cap, .int .i64 x.life, .int .i64 x.up] rfl)
          clear hK K
          try simp only [Act.put, List.setIfInBounds_toArray, List.set_cons_zero, List.set_cons_succ]
          refine wpAnyH_ready (rs := [6]) (by kernel_rfl) (by simp) ?_
          refine (AllReadyH.cons (by (simp only [List.getElem?_toArray, List.getElem?_cons_succ, List.getElem?_cons_zero]) <;> rfl) (fun K hK => ?_) AllReadyH.nil)
          go_simp
          refine (Mk.ok (x := x) (o := balNone) (A := none) (B := none) (ca := 0) (cb := 0) (hx := Hp.none) (hs := Hp.none) EV g M hu (EV.sub 3 rfl) (Hp.none_sub _) (Hp.none_sub _) (EV.sub 5 rfl) (EV.sub 4 rfl) ST.pt (Sl.none _ _) (Sl.none _ _) SV SR).mono ?_
          rintro e' w6 ⟨h6, hl, bl, D, cd, G, cg, Rr, cr, Q, cq, V', cv, C, cw, N, cn, rfl, _, _, _, _, _, _, _, _, EV⟩
          simp at EV
          have hkeep := EV.rangeMid 1 rfl 0 [.string x.j, .int .i64 x.per, .int .i64 x.book, .int .i64 x.perm, .int .i64 x.judge, .int .i64 x.cap, .int .i64 x.life, .int .i64 x.up] rfl
          go_wp2_with fail
          refine hK.out _ _ ?_ (fun hHeld => ?_)
          · (try dsimp only)
            first | (exact hkeep) | (exact E3.drew.rangeMid 0 rfl 0 [.string x.j, .int .i64 x.per, .int .i64 x.book, .int .i64 x.perm, .int .i64 x.judge, .int .i64 x.cap, .int .i64 x.life, .int .i64 x.up] rfl)
          clear hK K
          try simp only [Act.put, List.setIfInBounds_toArray, List.set_cons_zero, List.set_cons_succ]
          refine take_on (i := 7) (by (simp only [List.getElem?_toArray, List.getElem?_cons_succ, List.getElem?_cons_zero]) <;> rfl) (by kernel_rfl) (by kernel_rfl) (by kernel_rfl) (by intro _ _ _ _ h; exact h) (by rfl) (by assumption) ?_
          apply Exists.intro
          refine ⟨?_, ?_⟩
          · intro W0 hSw
            try dsimp only at hSw
            go_simp
            try (with_reducible rfl)
          try simp only [Act.put, List.setIfInBounds_toArray, List.set_cons_zero, List.set_cons_succ]
          refine take_on (i := 8) (by (simp only [List.getElem?_toArray, List.getElem?_cons_succ, List.getElem?_cons_zero]) <;> rfl) (by kernel_rfl) (by kernel_rfl) (by kernel_rfl) (by intro _ _ _ _ h; exact h) (by rfl) (by assumption) ?_
          apply Exists.intro
          refine ⟨?_, ?_⟩
          · intro W0 hSw
            try dsimp only at hSw
            go_simp
            try (with_reducible rfl)
          try simp only [Act.put, List.setIfInBounds_toArray, List.set_cons_zero, List.set_cons_succ]
          refine take_on (i := 9) (by (simp only [List.getElem?_toArray, List.getElem?_cons_succ, List.getElem?_cons_zero]) <;> rfl) (by kernel_rfl) (by kernel_rfl) (by kernel_rfl) (by intro _ _ _ _ h; exact h) (by rfl) (by assumption) ?_
          apply Exists.intro
          refine ⟨?_, ?_⟩
          · intro W0 hSw
            try dsimp only at hSw
            go_simp
            try (with_reducible rfl)
          try simp only [Act.put, List.setIfInBounds_toArray, List.set_cons_zero, List.set_cons_succ]
          refine take_on (i := 10) (by (simp only [List.getElem?_toArray, List.getElem?_cons_succ, List.getElem?_cons_zero]) <;> rfl) (by kernel_rfl) (by kernel_rfl) (by kernel_rfl) (by intro _ _ _ _ h; exact h) (by rfl) (by assumption) ?_
          apply Exists.intro
          refine ⟨?_, ?_⟩
          · intro W0 hSw
            try dsimp only at hSw
            go_simp
            try (with_reducible rfl)
          try simp only [Act.put, List.setIfInBounds_toArray, List.set_cons_zero, List.set_cons_succ]
          refine wpAnyH_ready (rs := [12]) (by kernel_rfl) (by simp) ?_
          refine (AllReadyH.cons (by (simp only [List.getElem?_toArray, List.getElem?_cons_succ, List.getElem?_cons_zero]) <;> rfl) (fun K hK => ?_) AllReadyH.nil)
          refine wp_store_env EV 0 rfl 44 _ _ rfl 0 _ rfl rfl (by simp) (by kernel_rfl) (by simp [Value.oneCell']) (fun W10 EV => ?_)
          simp at EV
          have hkeep := EV.rangeMid 1 rfl 0 [.string x.j, .int .i64 x.per, .int .i64 x.book, .int .i64 x.perm, .int .i64 x.judge, .int .i64 x.cap, .int .i64 x.life, .int .i64 x.up] rfl
          refine hK.out _ _ ?_ (fun hHeld => ?_)
          · (try dsimp only)
            first | (exact hkeep) | (exact E3.drew.rangeMid 0 rfl 0 [.string x.j, .int .i64 x.per, .int .i64 x.book, .int .i64 x.perm, .int .i64 x.judge, .int .i64 x.cap, .int .i64 x.life, .int .i64 x.up] rfl)
          clear hK K
          try simp only [Act.put, List.setIfInBounds_toArray, List.set_cons_zero, List.set_cons_succ]
          refine take_on (i := 13) (by (simp only [List.getElem?_toArray, List.getElem?_cons_succ, List.getElem?_cons_zero]) <;> rfl) (by kernel_rfl) (by kernel_rfl) (by kernel_rfl) (by intro _ _ _ _ h; exact h) (by rfl) (by assumption) ?_
          apply Exists.intro
          refine ⟨?_, ?_⟩
          · intro W0 hSw
            try dsimp only at hSw
            go_simp
            try (with_reducible rfl)
          try simp only [Act.put, List.setIfInBounds_toArray, List.set_cons_zero, List.set_cons_succ]
          refine take_on (i := 14) (by (simp only [List.getElem?_toArray, List.getElem?_cons_succ, List.getElem?_cons_zero]) <;> rfl) (by kernel_rfl) (by kernel_rfl) (by kernel_rfl) (by intro _ _ _ _ h; exact h) (by rfl) (by assumption) ?_
          apply Exists.intro
          refine ⟨?_, ?_⟩
          · intro W0 hSw
            try dsimp only at hSw
            go_simp
            try (with_reducible rfl)
          try simp only [Act.put, List.setIfInBounds_toArray, List.set_cons_zero, List.set_cons_succ]
          refine wpAnyH_done (by kernel_rfl) ?_ _
          have c12 := EV.cell 0 rfl 40 rfl
          have c8 := EV.cell 0 rfl 8 rfl
          have c0 := EV.cell 0 rfl 0 rfl
          have ce := EV.cell 1 rfl 8 rfl
          have ED := (((EV.drop 7).drop 6).drop 1).drop 0
          simp at ED
          clear EV
          go_wp2
          go_roundw
          case rel => exact ⟨q + 1, by omega, by go_num, ED⟩
          case measure => simp [intOf]; omega
    · obtain rfl : q = 14 := by omega
      go_wp2_with fail
      refine (Vnt.left SV E 3 rfl (v := 0) rfl).mono ?_
      rintro e w5 ⟨rfl, E5⟩
      go_wp2_with fail
      refine (Regi.rows SR E5 2 rfl 0 rfl).mono ?_
      rintro e w6 ⟨C6, n6, h6, rfl, _, E6⟩
      go_wp2_with fail
      refine (wakes19 _).mono ?_
      rintro e w7 ⟨rfl, B7⟩
      go_wp2
      go_ret
      exact ⟨rfl, (E6.below B7).low⟩
end Go.Proofs.YtnfedcaehkcffaaGreat
end
