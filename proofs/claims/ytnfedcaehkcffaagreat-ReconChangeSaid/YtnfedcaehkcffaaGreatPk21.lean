/- Walks and plain facts that the laws of this seat share, part 21: contracts of functions, each said at its theorem. -/
import Derived.Test.YtnfedcaehkcffaaGreatPk20
import Derived.Deep.RegionHeld3
set_option linter.all false
section
/- The walks of recon: part, apart, rates, Items, Sum, Terms. -/
namespace Go.Sl
open Go Go.RowKit
end Go.Sl
namespace Go.Proofs.YtnfedcaehkcffaaGreat
open Go.RowKit Go.Sl
set_option maxHeartbeats 2000000
set_option maxRecDepth 100000
set_option linter.unusedSimpArgs false
theorem part_calls (n r : Int) (w : World) : Calls Tryz.prog 66 #[.int .i64 n, .int .i64 r] w fun e w' => e = .returned (.int .i64 (ofVal n r)) ∧ w = w' := by
  have OC := fun W : World => of_calls n r W
  generalize ofVal n r = q at *
  generalize ofOk n r = f at *
  go_enter Tryz.func66, Tryz.ntmps66
  go_wp2_with fail
  refine (OC _).mono ?_
  rintro e w' ⟨rfl, rfl⟩
  go_wp2
  go_ret
  exact ⟨rfl, rfl⟩
theorem apart_calls (n r o : Int) (w : World) : Calls Tryz.prog 127 #[.int .i64 n, .int .i64 r, .int .i64 o] w fun e w' => e = .returned (.int .i64 (apV n r o)) ∧ w = w' := by
  have P1 := fun W : World => part_calls n r W
  have P2 := fun W : World => part_calls n o W
  have b1 := ofVal_bd n r
  have b2 := ofVal_bd n o
  have HA : Hid (apV n r o = ofVal n r - ofVal n o) := rfl
  generalize ofVal n r = q1 at *
  generalize ofVal n o = q2 at *
  go_enter Tryz.func127, Tryz.ntmps127
  go_wp2_with fail
  refine (P1 _).mono ?_
  rintro e w' ⟨rfl, rfl⟩
  go_wp2_with fail
  refine (P2 _).mono ?_
  rintro e w' ⟨rfl, rfl⟩
  go_wp2
  go_ret
  exact ⟨by rw [HA.out]; rfl, rfl⟩
theorem rates_calls (bk pm up rt nx gon usd new ra lr am tot : Int) (v0 v1 v4 v5 v6 v9 v10 v11 v12 v13 v14 v15 v16 v17 v18 v19 v21 v22 v23 v24 v25 v29 v30 v31 v34 v36 v39 : Value) (C N : Option Addr) (cw cn : Nat) (rows : List SWay) (now : List Int) (hw hn : Hp) (w : World) (kw : hw.sub w) (kn : hn.sub w) (sw : Sl kWay hw C cw rows) (sn : Sl kInt hn N cn now) (hl : now.length = rows.length) (hr : rows.length ≤ 1000)
    (hu : -200000000000 ≤ usd ∧ usd ≤ 200000000000) (hw2 : -200000000000 ≤ new ∧ new ≤ 200000000000) :
    Calls Tryz.prog 67 #[.agg #[v0, v1, .int .i64 bk, .int .i64 pm, v4, v5, v6, .int .i64 up, .int .i64 rt, v9, v10, v11, v12, v13, v14, v15, v16, v17, v18, v19, .int .i64 nx, v21, v22, v23, v24, v25, .int .i64 gon, .int .i64 usd, .int .i64 new, v29, v30, v31, .slice C rows.length cw, .slice N now.length cn, v34, .int .i64 ra, v36, .int .i64 lr, .int .i64 am, v39, .int .i64 tot]] w fun e w' => e = .returned (.int .i64 (apV (usd - new) nx rt + difS rt rows now)) ∧ Below w.heap.size w w' := by
  replace hl := Lib.hid hl
  have A0 := fun W : World => apart_calls (usd - new) nx rt W
  have b0 := apV_bd (usd - new) nx rt
  have bD := fun q : Nat => difS_bd rt (rows.take q) (now.take q)
  have E := (Env.start w).box0 [v0, v1, .int .i64 bk, .int .i64 pm, v4, v5, v6, .int .i64 up, .int .i64 rt, v9, v10, v11, v12, v13, v14, v15, v16, v17, v18, v19, .int .i64 nx, v21, v22, v23, v24, v25, .int .i64 gon, .int .i64 usd, .int .i64 new, v29, v30, v31, .slice C rows.length cw, .slice N now.length cn, v34, .int .i64 ra, v36, .int .i64 lr, .int .i64 am, v39, .int .i64 tot] 44
  generalize hb : w.heap.size = b at E
  generalize apV (usd - new) nx rt = a0 at *
  go_enter Tryz.func67, Tryz.ntmps67
  go_upto_region 1 with fail
  try rw [hb]
  refine abs_env E (fun W0 E => ?_)
  replace hb := Lib.hid hb
  have c27 := E.cell 0 rfl 27 rfl
  have c28 := E.cell 0 rfl 28 rfl
  have c20 := E.cell 0 rfl 20 rfl
  have c8 := E.cell 0 rfl 8 rfl
  have c32 := E.cell 0 rfl 32 rfl
  go_wp2_with fail
  refine (A0 _).mono ?_
  rintro e w' ⟨rfl, rfl⟩
  go_wp2
  go_loopw [3, 22] (fun s i wr => ∃ (q : Nat), q ≤ rows.length ∧ i = .int .i64 q ∧ s = .int .i64 (a0 + difS rt (rows.take q) (now.take q)) ∧ Env w wr [Hp.box b [v0, v1, .int .i64 bk, .int .i64 pm, v4, v5, v6, .int .i64 up, .int .i64 rt, v9, v10, v11, v12, v13, v14, v15, v16, v17, v18, v19, .int .i64 nx, v21, v22, v23, v24, v25, .int .i64 gon, .int .i64 usd, .int .i64 new, v29, v30, v31, .slice C rows.length cw, .slice N now.length cn, v34, .int .i64 ra, v36, .int .i64 lr, .int .i64 am, v39, .int .i64 tot] 44]) (fun _ i _ => rows.length - (intOf i).toNat)
  case atStart => exact ⟨0, by omega, rfl, by simp [difS], E⟩
  case round =>
    clear c27 c28 c20 c8 c32 E
    obtain ⟨q, hq, rfl, rfl, E⟩ := hrel
    by_cases hlt : q < rows.length
    · obtain ⟨x, hx⟩ := some_of_lt hlt
      obtain ⟨y, hy⟩ := some_of_lt (show q < now.length by rw [hl.out]; exact hlt)
      obtain ⟨bx, ox, rfl, d1, d2, d3, d4, d5⟩ := sw.way (kw.of_below E.low) hx
      obtain ⟨bn, on, rfl, n1⟩ := sn.int (kn.of_below E.low) hy
      have i1 : (0 : Int) ≤ (q : Int) := by omega
      have i2 : (q : Int) < (rows.length : Int) := by omega
      have i3 : (q : Int) < (now.length : Int) := by rw [hl.out]; omega
      have HS : Hid (difS rt (rows.take (q + 1)) (now.take (q + 1)) = difS rt (rows.take q) (now.take q) + apV x.mov y rt) := by
        unfold Hid; rw [take_next hx, take_next hy, difS_snoc (by rw [List.length_take, List.length_take, hl.out])]
      have bq := bD q
      have ba := apV_bd x.mov y rt
      have AC := fun W : World => apart_calls x.mov y rt W
      rw [List.length_take] at bq
      generalize difS rt (rows.take q) (now.take q) = sq at *
      generalize apV x.mov y rt = ap at *
      have hwr : IntKind.i64.wrap (a0 + sq + ap) = a0 + sq + ap := by rw [IntKind.wrap_i64]; omega
      have E2 := E.drew.box1 [.int .i64 x.cls, .int .i64 x.yr, .int .i64 x.opn, .int .i64 x.mov, .int .i64 x.clo] 65
      go_upto_region 5 with fail
      have E3 := E.box1 [.int .i64 x.cls, .int .i64 x.yr, .int .i64 x.opn, .int .i64 x.mov, .int .i64 x.clo] 65
      have n2 := fun o => (cell_alloc (o := o) (World.block_lt_of_cell? _ _ n1)).trans n1
      obtain ⟨W3, hW3⟩ : ∃ W3, W3 = wr.alloc (.cells #[.int .i64 x.cls, .int .i64 x.yr, .int .i64 x.opn, .int .i64 x.mov, .int .i64 x.clo] 65) := ⟨_, rfl⟩
      have n3 : W3.cell? ⟨bn, on + q, none⟩ = some (.int .i64 y) := by rw [hW3]; exact n2 _
      change Env w (wr.alloc (.cells #[.int .i64 x.cls, .int .i64 x.yr, .int .i64 x.opn, .int .i64 x.mov, .int .i64 x.clo] 65)) _ at E3
      rw [← hW3] at E3 ⊢
      clear hW3 n1 n2 d1 d2 d3 d4 d5 E E2
      generalize wr.heap.size = br at *
      have c3 := E3.cell 1 rfl 3 rfl
      have c33 := E3.cell 0 rfl 33 rfl
      have c8 := E3.cell 0 rfl 8 rfl
      refine wp_region_held_drew (S := (fun V => V.cell? ⟨br, 3, none⟩ = some (.int .i64 x.mov) ∧ V.cell? ⟨b, 33, none⟩ = some (.slice (some ⟨bn, on, none⟩) now.length cn) ∧ V.cell? ⟨bn, on + q, none⟩ = some (.int .i64 y) ∧ V.cell? ⟨b, 8, none⟩ = some (.int .i64 rt))) (by kernel_rfl) ?_ (fun hHeld => ?_)
      · (try dsimp only)
        first | (go_keep)
      refine take_on (i := 0) (by (simp only [List.getElem?_toArray, List.getElem?_cons_succ, List.getElem?_cons_zero]) <;> rfl) (by kernel_rfl) (by kernel_rfl) (by kernel_rfl) (by intro _ _ _ _ h; exact h) (by rfl) (by assumption) ?_
      apply Exists.intro
      refine ⟨?_, ?_⟩
      · intro W0 hSw
        try dsimp only at hSw
        go_simp
        try (with_reducible rfl)
      try simp only [Act.put, List.setIfInBounds_toArray, List.set_cons_zero, List.set_cons_succ]
      refine take_on (i := 1) (by (simp only [List.getElem?_toArray, List.getElem?_cons_succ, List.getElem?_cons_zero]) <;> rfl) (by kernel_rfl) (by kernel_rfl) (by kernel_rfl) (by intro _ _ _ _ h; exact h) (by rfl) (by assumption) ?_
      apply Exists.intro
      refine ⟨?_, ?_⟩
      · intro W0 hSw
        try dsimp only at hSw
        go_simp
        try (with_reducible rfl)
      try simp only [Act.put, List.setIfInBounds_toArray, List.set_cons_zero, List.set_cons_succ]
      refine take_on (i := 2) (by (simp only [List.getElem?_toArray, List.getElem?_cons_succ, List.getElem?_cons_zero]) <;> rfl) (by kernel_rfl) (by kernel_rfl) (by kernel_rfl) (by intro _ _ _ _ h; exact h) (by rfl) (by assumption) ?_
      apply Exists.intro
      refine ⟨?_, ?_⟩
      · intro W0 hSw
        try dsimp only at hSw
        go_simp
        try (with_reducible rfl)
      try simp only [Act.put, List.setIfInBounds_toArray, List.set_cons_zero, List.set_cons_succ]
      refine take_on (i := 3) (by (simp only [List.getElem?_toArray, List.getElem?_cons_succ, List.getElem?_cons_zero]) <;> rfl) (by kernel_rfl) (by kernel_rfl) (by kernel_rfl) (by intro _ _ _ _ h; exact h) (by rfl) (by assumption) ?_
      apply Exists.intro
      refine ⟨?_, ?_⟩
      · intro W0 hSw
        try dsimp only at hSw
        go_simp
        try (with_reducible rfl)
      try simp only [Act.put, List.setIfInBounds_toArray, List.set_cons_zero, List.set_cons_succ]
      refine take_on (i := 4) (by (simp only [List.getElem?_toArray, List.getElem?_cons_succ, List.getElem?_cons_zero]) <;> rfl) (by kernel_rfl) (by kernel_rfl) (by kernel_rfl) (by intro _ _ _ _ h; exact h) (by rfl) (by assumption) ?_
      apply Exists.intro
      refine ⟨?_, ?_⟩
      · intro W0 hSw
        try dsimp only at hSw
        go_simp
        try (with_reducible rfl)
      try simp only [Act.put, List.setIfInBounds_toArray, List.set_cons_zero, List.set_cons_succ]
      refine take_on (i := 5) (by (simp only [List.getElem?_toArray, List.getElem?_cons_succ, List.getElem?_cons_zero]) <;> rfl) (by kernel_rfl) (by kernel_rfl) (by kernel_rfl) (by intro _ _ _ _ h; exact h) (by rfl) (by assumption) ?_
      apply Exists.intro
      refine ⟨?_, ?_⟩
      · intro W0 hSw
        try dsimp only at hSw
        go_simp
        try (with_reducible rfl)
      try simp only [Act.put, List.setIfInBounds_toArray, List.set_cons_zero, List.set_cons_succ]
      refine take_on (i := 6) (by (simp only [List.getElem?_toArray, List.getElem?_cons_succ, List.getElem?_cons_zero]) <;> rfl) (by kernel_rfl) (by kernel_rfl) (by kernel_rfl) (by intro _ _ _ _ h; exact h) (by rfl) (by assumption) ?_
      apply Exists.intro
      refine ⟨?_, ?_⟩
      · intro W0 hSw
        try dsimp only at hSw
        go_simp
        try (with_reducible rfl)
      try simp only [Act.put, List.setIfInBounds_toArray, List.set_cons_zero, List.set_cons_succ]
      refine take_on (i := 7) (by (simp only [List.getElem?_toArray, List.getElem?_cons_succ, List.getElem?_cons_zero]) <;> rfl) (by kernel_rfl) (by kernel_rfl) (by kernel_rfl) (by intro _ _ _ _ h; exact h) (by rfl) (by assumption) ?_
      apply Exists.intro
      refine ⟨?_, ?_⟩
      · intro W0 hSw
        try dsimp only at hSw
        go_simp
        try (with_reducible rfl)
      try simp only [Act.put, List.setIfInBounds_toArray, List.set_cons_zero, List.set_cons_succ]
      refine take_on (i := 8) (by (simp only [List.getElem?_toArray, List.getElem?_cons_succ, List.getElem?_cons_zero]) <;> rfl) (by kernel_rfl) (by kernel_rfl) (by kernel_rfl) (by intro _ _ _ _ h; exact h) (by rfl) (by assumption) ?_
      apply Exists.intro
      refine ⟨?_, ?_⟩
      · intro W0 hSw
        try dsimp only at hSw
        go_simp
        try (with_reducible rfl)
      try simp only [Act.put, List.setIfInBounds_toArray, List.set_cons_zero, List.set_cons_succ]
      refine take_on (i := 9) (by (simp only [List.getElem?_toArray, List.getElem?_cons_succ, List.getElem?_cons_zero]) <;> rfl) (by kernel_rfl) (by kernel_rfl) (by kernel_rfl) (by intro _ _ _ _ h; exact h) (by rfl) (by assumption) ?_
      apply Exists.intro
      refine ⟨?_, ?_⟩
      · intro W0 hSw
        try dsimp only at hSw
        go_simp
        try (with_reducible rfl)
      try simp only [Act.put, List.setIfInBounds_toArray, List.set_cons_zero, List.set_cons_succ]
      refine wpAnyH_ready (rs := [10]) (by kernel_rfl) (by simp) ?_
      refine (AllReadyH.cons (by (simp only [List.getElem?_toArray, List.getElem?_cons_succ, List.getElem?_cons_zero]) <;> rfl) (fun K hK => ?_) AllReadyH.nil)
      go_simp
      refine (AC _).mono ?_
      rintro e w' ⟨rfl, rfl⟩
      have hkeep := hHeld
      go_wp2_with fail
      refine hK.out _ _ ?_ (fun hHeld => ?_)
      · (try dsimp only)
        first | (exact hkeep) | (go_keep)
      clear hK K
      try simp only [Act.put, List.setIfInBounds_toArray, List.set_cons_zero, List.set_cons_succ]
      refine take_on (i := 11) (by (simp only [List.getElem?_toArray, List.getElem?_cons_succ, List.getElem?_cons_zero]) <;> rfl) (by kernel_rfl) (by kernel_rfl) (by kernel_rfl) (by intro _ _ _ _ h; exact h) (by rfl) (by assumption) ?_
      apply Exists.intro
      refine ⟨?_, ?_⟩
      · intro W0 hSw
        try dsimp only at hSw
        go_simp
        try (with_reducible rfl)
      try simp only [Act.put, List.setIfInBounds_toArray, List.set_cons_zero, List.set_cons_succ]
      refine take_on (i := 12) (by (simp only [List.getElem?_toArray, List.getElem?_cons_succ, List.getElem?_cons_zero]) <;> rfl) (by kernel_rfl) (by kernel_rfl) (by kernel_rfl) (by intro _ _ _ _ h; exact h) (by rfl) (by assumption) ?_
      apply Exists.intro
      refine ⟨?_, ?_⟩
      · intro W0 hSw
        try dsimp only at hSw
        go_simp
        try (with_reducible rfl)
      try simp only [Act.put, List.setIfInBounds_toArray, List.set_cons_zero, List.set_cons_succ]
      refine wpAnyH_done (by kernel_rfl) ?_ _
      have E4 := E3.drew.rest1
      clear hHeld hkeep c3 c33 c8 n3 E3
      go_wp2
      go_roundw
      case rel => exact ⟨q + 1, by omega, by go_num, by rw [HS.out, Int.add_assoc], E4⟩
      case measure => simp [intOf]; omega
    · obtain rfl : q = rows.length := by omega
      rw [List.take_length, List.take_of_length_le (Nat.le_of_eq hl.out)]
      have EL := E.low
      rw [hb.out] at EL
      go_wp2
      go_ret
      exact ⟨rfl, EL⟩
theorem recSum_calls (A : Option Addr) (ca : Nat) (xs : List SItem) (h : Hp) (w : World) (hs : h.sub w) (sx : Sl kItem h A ca xs) (hx : xs.length ≤ 1000) (hb : ∀ i ∈ xs, -1000000000000000 ≤ i.amt ∧ i.amt ≤ 1000000000000000) :
    Calls Tryz.prog 25 #[.slice A xs.length ca] w fun e w' => e = .returned (.int .i64 ((xs.map (·.amt)).sum)) ∧ Below w.heap.size w w' := by
  have m1 := sx.small
  have bS : ∀ l : List SItem, (∀ i ∈ l, -1000000000000000 ≤ i.amt ∧ i.amt ≤ 1000000000000000) → -(l.length * 1000000000000000 : Int) ≤ (l.map (·.amt)).sum ∧ (l.map (·.amt)).sum ≤ l.length * 1000000000000000 := by
    intro l
    induction l with
    | nil => intro _; simp
    | cons y l ih =>
      intro hl
      have h1 := ih fun i hi => hl i (by simp [hi])
      have h2 := hl y (by simp)
      simp only [List.map_cons, List.sum_cons, List.length_cons]; omega
  replace bS := Lib.hid bS
  replace hb := Lib.hid hb
  go_enter Tryz.func25, Tryz.ntmps25
  go_wp2
  go_loopw [3, 8] (fun s i wr => ∃ (q : Nat), q ≤ xs.length ∧ i = .int .i64 q ∧ s = .int .i64 (((xs.take q).map (·.amt)).sum) ∧ Below w.heap.size w wr) (fun _ i _ => xs.length - (intOf i).toNat)
  case atStart => exact ⟨0, by omega, rfl, rfl, Below.refl _ _⟩
  case round =>
    obtain ⟨q, hq, rfl, rfl, B⟩ := hrel
    by_cases hlt : q < xs.length
    · obtain ⟨x, hx⟩ := some_of_lt hlt
      obtain ⟨bx, ox, rfl, d1, d2⟩ := sx.item (hs.of_below B) hx
      have i1 : (0 : Int) ≤ (q : Int) := by omega
      have i2 : (q : Int) < (xs.length : Int) := by omega
      have b1 := bS.out (xs.take q) fun i hi => hb.out i (List.mem_of_mem_take hi)
      have b2 := hb.out x (List.mem_of_getElem? hx.out)
      rw [List.length_take] at b1
      have HS : Hid (((xs.take (q + 1)).map (·.amt)).sum = ((xs.take q).map (·.amt)).sum + x.amt) := by unfold Hid; rw [take_next hx]; simp
      generalize ((xs.take q).map (·.amt)).sum = s1 at *
      go_wp2
      go_roundw
      case rel => exact ⟨q + 1, by omega, by go_num, by rw [HS.out], B.alloc B.size _⟩
      case measure => simp [intOf]; omega
    · obtain rfl : q = xs.length := by omega
      rw [List.take_length]
      go_wp2
      go_ret
      exact ⟨rfl, B⟩
theorem recItems_calls (bk pm up rt nx gon usd new ra lr am tot : Int) (v0 v1 v4 v5 v6 v9 v10 v11 v12 v13 v14 v15 v16 v17 v18 v19 v21 v22 v23 v24 v25 v29 v30 v31 v34 v36 v39 : Value) (C N : Option Addr) (cw cn : Nat) (rows : List SWay) (now : List Int) (hw hn : Hp) (w : World) (kw : hw.sub w) (kn : hn.sub w) (sw : Sl kWay hw C cw rows) (sn : Sl kInt hn N cn now) (hl : now.length = rows.length) (hr : rows.length ≤ 24)
    (hu : -200000000000 ≤ usd ∧ usd ≤ 200000000000) (hw2 : -200000000000 ≤ new ∧ new ≤ 200000000000) (h1 : -100000000000 ≤ ra ∧ ra ≤ 100000000000) (h2 : -100000000000 ≤ lr ∧ lr ≤ 100000000000) (h3 : -100000000000 ≤ am ∧ am ≤ 100000000000) (h4 : -100000000000 ≤ up ∧ up ≤ 100000000000) (h5 : -100000000000 ≤ tot ∧ tot ≤ 100000000000)
    {d s8 : Int} (hd : apV (usd - new) nx rt + difS rt rows now = d) (h8 : tot - (ofVal bk rt + ofVal pm rt + d + (ra + lr) + am + ofVal gon nx + up) = s8) :
    Calls Tryz.prog 26 #[.agg #[v0, v1, .int .i64 bk, .int .i64 pm, v4, v5, v6, .int .i64 up, .int .i64 rt, v9, v10, v11, v12, v13, v14, v15, v16, v17, v18, v19, .int .i64 nx, v21, v22, v23, v24, v25, .int .i64 gon, .int .i64 usd, .int .i64 new, v29, v30, v31, .slice C rows.length cw, .slice N now.length cn, v34, .int .i64 ra, v36, .int .i64 lr, .int .i64 am, v39, .int .i64 tot]] w fun e w' => ∃ D cd hd, e = .returned (.slice D 8 cd) ∧ Ow kItem hd D cd [⟨1, ofVal bk rt⟩, ⟨2, ofVal pm rt⟩, ⟨3, d⟩, ⟨4, ra + lr⟩, ⟨5, am⟩, ⟨6, ofVal gon nx⟩, ⟨7, up⟩, ⟨8, s8⟩] ∧ Env w w' [hd] := by
  have b0 := apV_bd (usd - new) nx rt
  have bD := difS_bd rt rows now
  have bd : -300000000000000 ≤ d ∧ d ≤ 300000000000000 := by omega
  have PC1 := fun W : World => part_calls bk rt W
  have PC2 := fun W : World => part_calls pm rt W
  have PC3 := fun W : World => part_calls gon nx W
  have RC := fun (W : World) (hW : Below w.heap.size w W) => rates_calls bk pm up rt nx gon usd new ra lr am tot v0 v1 v4 v5 v6 v9 v10 v11 v12 v13 v14 v15 v16 v17 v18 v19 v21 v22 v23 v24 v25 v29 v30 v31 v34 v36 v39 C N cw cn rows now hw hn W (kw.of_below hW) (kn.of_below hW) sw sn hl (by omega) hu hw2
  rw [hd] at RC
  have b1 := ofVal_bd bk rt
  have b2 := ofVal_bd pm rt
  have b3 := ofVal_bd gon nx
  replace hl := Lib.hid hl
  replace hd := Lib.hid hd
  clear b0 bD
  generalize ofVal bk rt = q1 at *
  generalize ofVal pm rt = q2 at *
  generalize ofVal gon nx = q6 at *
  have bs8 : -400000000000000 ≤ s8 ∧ s8 ≤ 400000000000000 := by omega
  replace h8 := Lib.hid h8
  have E := (Env.start w).box0 [v0, v1, .int .i64 bk, .int .i64 pm, v4, v5, v6, .int .i64 up, .int .i64 rt, v9, v10, v11, v12, v13, v14, v15, v16, v17, v18, v19, .int .i64 nx, v21, v22, v23, v24, v25, .int .i64 gon, .int .i64 usd, .int .i64 new, v29, v30, v31, .slice C rows.length cw, .slice N now.length cn, v34, .int .i64 ra, v36, .int .i64 lr, .int .i64 am, v39, .int .i64 tot] 44
  generalize hb : w.heap.size = b at E
  go_enter Tryz.func26, Tryz.ntmps26
  go_upto_region 1 with fail
  try rw [hb]
  refine abs_env E (fun W0 E => ?_)
  replace hb := Lib.hid hb
  have hw1 : IntKind.i64.wrap (ra + lr) = ra + lr := by rw [IntKind.wrap_i64]; omega
  have EV := E.drew
  have cc : True := trivial
  refine wp_region_held_drew (S := (fun V => V.cell? ⟨b, 2, none⟩ = some (.int .i64 bk) ∧ V.cell? ⟨b, 3, none⟩ = some (.int .i64 pm) ∧ V.cell? ⟨b, 7, none⟩ = some (.int .i64 up) ∧ V.cell? ⟨b, 8, none⟩ = some (.int .i64 rt) ∧ V.cell? ⟨b, 20, none⟩ = some (.int .i64 nx) ∧ V.cell? ⟨b, 26, none⟩ = some (.int .i64 gon) ∧ V.cell? ⟨b, 35, none⟩ = some (.int .i64 ra) ∧ V.cell? ⟨b, 37, none⟩ = some (.int .i64 lr) ∧ V.cell? ⟨b, 38, none⟩ = some (.int .i64 am) ∧ V.rangeAt b 0 [v0, v1, .int .i64 bk, .int .i64 pm, v4, v5, v6, .int .i64 up, .int .i64 rt, v9, v10, v11, v12, v13, v14, v15, v16, v17, v18, v19, .int .i64 nx, v21, v22, v23, v24, v25, .int .i64 gon, .int .i64 usd, .int .i64 new, v29, v30, v31, .slice C rows.length cw, .slice N now.length cn, v34, .int .i64 ra, v36, .int .i64 lr, .int .i64 am, v39, .int .i64 tot])) (by kernel_rfl) ?_ (fun hHeld => ?_)
  · (try dsimp only)
    first | (exact And.intro (E.drew.cell 0 rfl 2 rfl) (And.intro (E.drew.cell 0 rfl 3 rfl) (And.intro (E.drew.cell 0 rfl 7 rfl) (And.intro (E.drew.cell 0 rfl 8 rfl) (And.intro (E.drew.cell 0 rfl 20 rfl) (And.intro (E.drew.cell 0 rfl 26 rfl) (And.intro (E.drew.cell 0 rfl 35 rfl) (And.intro (E.drew.cell 0 rfl 37 rfl) (And.intro (E.drew.cell 0 rfl 38 rfl) (E.drew.rangeMid 0 rfl 0 [v0, v1, .int .i64 bk, .int .i64 pm, v4, v5, v6, .int .i64 up, .int .i64 rt, v9, v10, v11, v12, v13, v14, v15, v16, v17, v18, v19, .int .i64 nx, v21, v22, v23, v24, v25, .int .i64 gon, .int .i64 usd, .int .i64 new, v29, v30, v31, .slice C rows.length cw, .slice N now.length cn, v34, .int .i64 ra, v36, .int .i64 lr, .int .i64 am, v39, .int .i64 tot] rfl))))))))))
  refine take_on (i := 0) (by (simp only [List.getElem?_toArray, List.getElem?_cons_succ, List.getElem?_cons_zero]) <;> rfl) (by kernel_rfl) (by kernel_rfl) (by kernel_rfl) (by intro _ _ _ _ h; exact h) (by rfl) (by assumption) ?_
  apply Exists.intro
  refine ⟨?_, ?_⟩
  · intro W0 hSw
    try dsimp only at hSw
    go_simp
    try (with_reducible rfl)
  try simp only [Act.put, List.setIfInBounds_toArray, List.set_cons_zero, List.set_cons_succ]
  refine take_on (i := 1) (by (simp only [List.getElem?_toArray, List.getElem?_cons_succ, List.getElem?_cons_zero]) <;> rfl) (by kernel_rfl) (by kernel_rfl) (by kernel_rfl) (by intro _ _ _ _ h; exact h) (by rfl) (by assumption) ?_
  apply Exists.intro
  refine ⟨?_, ?_⟩
  · intro W0 hSw
    try dsimp only at hSw
    go_simp
    try (with_reducible rfl)
  try simp only [Act.put, List.setIfInBounds_toArray, List.set_cons_zero, List.set_cons_succ]
  refine take_on (i := 2) (by (simp only [List.getElem?_toArray, List.getElem?_cons_succ, List.getElem?_cons_zero]) <;> rfl) (by kernel_rfl) (by kernel_rfl) (by kernel_rfl) (by intro _ _ _ _ h; exact h) (by rfl) (by assumption) ?_
  apply Exists.intro
  refine ⟨?_, ?_⟩
  · intro W0 hSw
    try dsimp only at hSw
    go_simp
    try (with_reducible rfl)
  try simp only [Act.put, List.setIfInBounds_toArray, List.set_cons_zero, List.set_cons_succ]
  refine take_on (i := 3) (by (simp only [List.getElem?_toArray, List.getElem?_cons_succ, List.getElem?_cons_zero]) <;> rfl) (by kernel_rfl) (by kernel_rfl) (by kernel_rfl) (by intro _ _ _ _ h; exact h) (by rfl) (by assumption) ?_
  apply Exists.intro
  refine ⟨?_, ?_⟩
  · intro W0 hSw
    try dsimp only at hSw
    go_simp
    try (with_reducible rfl)
  try simp only [Act.put, List.setIfInBounds_toArray, List.set_cons_zero, List.set_cons_succ]
  refine take_on (i := 4) (by (simp only [List.getElem?_toArray, List.getElem?_cons_succ, List.getElem?_cons_zero]) <;> rfl) (by kernel_rfl) (by kernel_rfl) (by kernel_rfl) (by intro _ _ _ _ h; exact h) (by rfl) (by assumption) ?_
  apply Exists.intro
  refine ⟨?_, ?_⟩
  · intro W0 hSw
    try dsimp only at hSw
    go_simp
    try (with_reducible rfl)
  try simp only [Act.put, List.setIfInBounds_toArray, List.set_cons_zero, List.set_cons_succ]
  refine take_on (i := 7) (by (simp only [List.getElem?_toArray, List.getElem?_cons_succ, List.getElem?_cons_zero]) <;> rfl) (by kernel_rfl) (by kernel_rfl) (by kernel_rfl) (by intro _ _ _ _ h; exact h) (by rfl) (by assumption) ?_
  apply Exists.intro
  refine ⟨?_, ?_⟩
  · intro W0 hSw
    try dsimp only at hSw
    go_simp
    try (with_reducible rfl)
  try simp only [Act.put, List.setIfInBounds_toArray, List.set_cons_zero, List.set_cons_succ]
  refine take_on (i := 8) (by (simp only [List.getElem?_toArray, List.getElem?_cons_succ, List.getElem?_cons_zero]) <;> rfl) (by kernel_rfl) (by kernel_rfl) (by kernel_rfl) (by intro _ _ _ _ h; exact h) (by rfl) (by assumption) ?_
  apply Exists.intro
  refine ⟨?_, ?_⟩
  · intro W0 hSw
    try dsimp only at hSw
    go_simp
    try (with_reducible rfl)
  try simp only [Act.put, List.setIfInBounds_toArray, List.set_cons_zero, List.set_cons_succ]
  refine take_on (i := 9) (by (simp only [List.getElem?_toArray, List.getElem?_cons_succ, List.getElem?_cons_zero]) <;> rfl) (by kernel_rfl) (by kernel_rfl) (by kernel_rfl) (by intro _ _ _ _ h; exact h) (by rfl) (by assumption) ?_
  apply Exists.intro
  refine ⟨?_, ?_⟩
  · intro W0 hSw
    try dsimp only at hSw
    go_simp
    try (with_reducible rfl)
  try simp only [Act.put, List.setIfInBounds_toArray, List.set_cons_zero, List.set_cons_succ]
  refine take_on (i := 10) (by (simp only [List.getElem?_toArray, List.getElem?_cons_succ, List.getElem?_cons_zero]) <;> rfl) (by kernel_rfl) (by kernel_rfl) (by kernel_rfl) (by intro _ _ _ _ h; exact h) (by rfl) (by assumption) ?_
  apply Exists.intro
  refine ⟨?_, ?_⟩
  · intro W0 hSw
    try dsimp only at hSw
    go_simp
    try (with_reducible rfl)
  try simp only [Act.put, List.setIfInBounds_toArray, List.set_cons_zero, List.set_cons_succ]
  refine take_on (i := 11) (by (simp only [List.getElem?_toArray, List.getElem?_cons_succ, List.getElem?_cons_zero]) <;> rfl) (by kernel_rfl) (by kernel_rfl) (by kernel_rfl) (by intro _ _ _ _ h; exact h) (by rfl) (by assumption) ?_
  apply Exists.intro
  refine ⟨?_, ?_⟩
  · intro W0 hSw
    try dsimp only at hSw
    go_simp
    try (with_reducible rfl)
  try simp only [Act.put, List.setIfInBounds_toArray, List.set_cons_zero, List.set_cons_succ]
  refine take_on (i := 14) (by (simp only [List.getElem?_toArray, List.getElem?_cons_succ, List.getElem?_cons_zero]) <;> rfl) (by kernel_rfl) (by kernel_rfl) (by kernel_rfl) (by intro _ _ _ _ h; exact h) (by rfl) (by assumption) ⟨_, fun W0 hSw => exec_load_mid 44 _ rfl b 0 rfl [v0, v1, .int .i64 bk, .int .i64 pm, v4, v5, v6, .int .i64 up, .int .i64 rt, v9, v10, v11, v12, v13, v14, v15, v16, v17, v18, v19, .int .i64 nx, v21, v22, v23, v24, v25, .int .i64 gon, .int .i64 usd, .int .i64 new, v29, v30, v31, .slice C rows.length cw, .slice N now.length cn, v34, .int .i64 ra, v36, .int .i64 lr, .int .i64 am, v39, .int .i64 tot] _ W0 (hSw.2.2.2.2.2.2.2.2.2) Tryz.underlying44 rfl (by kernel_rfl), ?_⟩
  try simp only [Act.put, List.setIfInBounds_toArray, List.set_cons_zero, List.set_cons_succ]
  refine take_on (i := 17) (by (simp only [List.getElem?_toArray, List.getElem?_cons_succ, List.getElem?_cons_zero]) <;> rfl) (by kernel_rfl) (by kernel_rfl) (by kernel_rfl) (by intro _ _ _ _ h; exact h) (by rfl) (by assumption) ?_
  apply Exists.intro
  refine ⟨?_, ?_⟩
  · intro W0 hSw
    try dsimp only at hSw
    go_simp
    try (with_reducible rfl)
  try simp only [Act.put, List.setIfInBounds_toArray, List.set_cons_zero, List.set_cons_succ]
  refine take_on (i := 18) (by (simp only [List.getElem?_toArray, List.getElem?_cons_succ, List.getElem?_cons_zero]) <;> rfl) (by kernel_rfl) (by kernel_rfl) (by kernel_rfl) (by intro _ _ _ _ h; exact h) (by rfl) (by assumption) ?_
  apply Exists.intro
  refine ⟨?_, ?_⟩
  · intro W0 hSw
    try dsimp only at hSw
    go_simp
    try (with_reducible rfl)
  try simp only [Act.put, List.setIfInBounds_toArray, List.set_cons_zero, List.set_cons_succ]
  refine take_on (i := 19) (by (simp only [List.getElem?_toArray, List.getElem?_cons_succ, List.getElem?_cons_zero]) <;> rfl) (by kernel_rfl) (by kernel_rfl) (by kernel_rfl) (by intro _ _ _ _ h; exact h) (by rfl) (by assumption) ?_
  apply Exists.intro
  refine ⟨?_, ?_⟩
  · intro W0 hSw
    try dsimp only at hSw
    go_simp
    try (with_reducible rfl)
  try simp only [Act.put, List.setIfInBounds_toArray, List.set_cons_zero, List.set_cons_succ]
  refine take_on (i := 20) (by (simp only [List.getElem?_toArray, List.getElem?_cons_succ, List.getElem?_cons_zero]) <;> rfl) (by kernel_rfl) (by kernel_rfl) (by kernel_rfl) (by intro _ _ _ _ h; exact h) (by rfl) (by assumption) ?_
  apply Exists.intro
  refine ⟨?_, ?_⟩
  · intro W0 hSw
    try dsimp only at hSw
    go_simp
    try (with_reducible rfl)
  try simp only [Act.put, List.setIfInBounds_toArray, List.set_cons_zero, List.set_cons_succ]
  refine take_on (i := 21) (by (simp only [List.getElem?_toArray, List.getElem?_cons_succ, List.getElem?_cons_zero]) <;> rfl) (by kernel_rfl) (by kernel_rfl) (by kernel_rfl) (by intro _ _ _ _ h; exact h) (by rfl) (by assumption) ?_
  apply Exists.intro
  refine ⟨?_, ?_⟩
  · intro W0 hSw
    try dsimp only at hSw
    go_simp
    try (with_reducible rfl)
  try simp only [Act.put, List.setIfInBounds_toArray, List.set_cons_zero, List.set_cons_succ]
  refine take_on (i := 22) (by (simp only [List.getElem?_toArray, List.getElem?_cons_succ, List.getElem?_cons_zero]) <;> rfl) (by kernel_rfl) (by kernel_rfl) (by kernel_rfl) (by intro _ _ _ _ h; exact h) (by rfl) (by assumption) ?_
  apply Exists.intro
  refine ⟨?_, ?_⟩
  · intro W0 hSw
    try dsimp only at hSw
    go_simp
    try (with_reducible rfl)
  try simp only [Act.put, List.setIfInBounds_toArray, List.set_cons_zero, List.set_cons_succ]
  refine take_on (i := 23) (by (simp only [List.getElem?_toArray, List.getElem?_cons_succ, List.getElem?_cons_zero]) <;> rfl) (by kernel_rfl) (by kernel_rfl) (by kernel_rfl) (by intro _ _ _ _ h; exact h) (by rfl) (by assumption) ?_
  apply Exists.intro
  refine ⟨?_, ?_⟩
  · intro W0 hSw
    try dsimp only at hSw
    go_simp
    try (with_reducible rfl)
  try simp only [Act.put, List.setIfInBounds_toArray, List.set_cons_zero, List.set_cons_succ]
  refine take_on (i := 24) (by (simp only [List.getElem?_toArray, List.getElem?_cons_succ, List.getElem?_cons_zero]) <;> rfl) (by kernel_rfl) (by kernel_rfl) (by kernel_rfl) (by intro _ _ _ _ h; exact h) (by rfl) (by assumption) ?_
  apply Exists.intro
  refine ⟨?_, ?_⟩
  · intro W0 hSw
    try dsimp only at hSw
    go_simp
    try (with_reducible rfl)
  try simp only [Act.put, List.setIfInBounds_toArray, List.set_cons_zero, List.set_cons_succ]
  refine take_on (i := 25) (by (simp only [List.getElem?_toArray, List.getElem?_cons_succ, List.getElem?_cons_zero]) <;> rfl) (by kernel_rfl) (by kernel_rfl) (by kernel_rfl) (by intro _ _ _ _ h; exact h) (by rfl) (by assumption) ?_
  apply Exists.intro
  refine ⟨?_, ?_⟩
  · intro W0 hSw
    try dsimp only at hSw
    go_simp
    try (with_reducible rfl)
  try simp only [Act.put, List.setIfInBounds_toArray, List.set_cons_zero, List.set_cons_succ]
  refine take_on (i := 26) (by (simp only [List.getElem?_toArray, List.getElem?_cons_succ, List.getElem?_cons_zero]) <;> rfl) (by kernel_rfl) (by kernel_rfl) (by kernel_rfl) (by intro _ _ _ _ h; exact h) (by rfl) (by assumption) ?_
  apply Exists.intro
  refine ⟨?_, ?_⟩
  · intro W0 hSw
    try dsimp only at hSw
    go_simp
    try (with_reducible rfl)
  try simp only [Act.put, List.setIfInBounds_toArray, List.set_cons_zero, List.set_cons_succ]
  refine take_on (i := 27) (by (simp only [List.getElem?_toArray, List.getElem?_cons_succ, List.getElem?_cons_zero]) <;> rfl) (by kernel_rfl) (by kernel_rfl) (by kernel_rfl) (by intro _ _ _ _ h; exact h) (by rfl) (by assumption) ?_
  apply Exists.intro
  refine ⟨?_, ?_⟩
  · intro W0 hSw
    try dsimp only at hSw
    go_simp
    try (with_reducible rfl)
  try simp only [Act.put, List.setIfInBounds_toArray, List.set_cons_zero, List.set_cons_succ]
  refine take_on (i := 28) (by (simp only [List.getElem?_toArray, List.getElem?_cons_succ, List.getElem?_cons_zero]) <;> rfl) (by kernel_rfl) (by kernel_rfl) (by kernel_rfl) (by intro _ _ _ _ h; exact h) (by rfl) (by assumption) ?_
  apply Exists.intro
  refine ⟨?_, ?_⟩
  · intro W0 hSw
    try dsimp only at hSw
    go_simp
    try (with_reducible rfl)
  try simp only [Act.put, List.setIfInBounds_toArray, List.set_cons_zero, List.set_cons_succ]
  refine take_on (i := 29) (by (simp only [List.getElem?_toArray, List.getElem?_cons_succ, List.getElem?_cons_zero]) <;> rfl) (by kernel_rfl) (by kernel_rfl) (by kernel_rfl) (by intro _ _ _ _ h; exact h) (by rfl) (by assumption) ?_
  apply Exists.intro
  refine ⟨?_, ?_⟩
  · intro W0 hSw
    try dsimp only at hSw
    go_simp
    try (with_reducible rfl)
  try simp only [Act.put, List.setIfInBounds_toArray, List.set_cons_zero, List.set_cons_succ]
  refine take_on (i := 30) (by (simp only [List.getElem?_toArray, List.getElem?_cons_succ, List.getElem?_cons_zero]) <;> rfl) (by kernel_rfl) (by kernel_rfl) (by kernel_rfl) (by intro _ _ _ _ h; exact h) (by rfl) (by assumption) ?_
  apply Exists.intro
  refine ⟨?_, ?_⟩
  · intro W0 hSw
    try dsimp only at hSw
    go_simp
    try (with_reducible rfl)
  try simp only [Act.put, List.setIfInBounds_toArray, List.set_cons_zero, List.set_cons_succ]
  refine take_on (i := 31) (by (simp only [List.getElem?_toArray, List.getElem?_cons_succ, List.getElem?_cons_zero]) <;> rfl) (by kernel_rfl) (by kernel_rfl) (by kernel_rfl) (by intro _ _ _ _ h; exact h) (by rfl) (by assumption) ?_
  apply Exists.intro
  refine ⟨?_, ?_⟩
  · intro W0 hSw
    try dsimp only at hSw
    go_simp
    try (with_reducible rfl)
  try simp only [Act.put, List.setIfInBounds_toArray, List.set_cons_zero, List.set_cons_succ]
  refine take_on (i := 32) (by (simp only [List.getElem?_toArray, List.getElem?_cons_succ, List.getElem?_cons_zero]) <;> rfl) (by kernel_rfl) (by kernel_rfl) (by kernel_rfl) (by intro _ _ _ _ h; exact h) (by rfl) (by assumption) ?_
  apply Exists.intro
  refine ⟨?_, ?_⟩
  · intro W0 hSw
    try dsimp only at hSw
    go_simp
    try (with_reducible rfl)
  try simp only [Act.put, List.setIfInBounds_toArray, List.set_cons_zero, List.set_cons_succ]
  refine take_on (i := 35) (by (simp only [List.getElem?_toArray, List.getElem?_cons_succ, List.getElem?_cons_zero]) <;> rfl) (by kernel_rfl) (by kernel_rfl) (by kernel_rfl) (by intro _ _ _ _ h; exact h) (by rfl) (by assumption) ?_
  apply Exists.intro
  refine ⟨?_, ?_⟩
  · intro W0 hSw
    try dsimp only at hSw
    go_simp
    try (with_reducible rfl)
  try simp only [Act.put, List.setIfInBounds_toArray, List.set_cons_zero, List.set_cons_succ]
  refine take_on (i := 36) (by (simp only [List.getElem?_toArray, List.getElem?_cons_succ, List.getElem?_cons_zero]) <;> rfl) (by kernel_rfl) (by kernel_rfl) (by kernel_rfl) (by intro _ _ _ _ h; exact h) (by rfl) (by assumption) ?_
  apply Exists.intro
  refine ⟨?_, ?_⟩
  · intro W0 hSw
    try dsimp only at hSw
    go_simp
    try (with_reducible rfl)
  try simp only [Act.put, List.setIfInBounds_toArray, List.set_cons_zero, List.set_cons_succ]
  refine take_on (i := 37) (by (simp only [List.getElem?_toArray, List.getElem?_cons_succ, List.getElem?_cons_zero]) <;> rfl) (by kernel_rfl) (by kernel_rfl) (by kernel_rfl) (by intro _ _ _ _ h; exact h) (by rfl) (by assumption) ?_
  apply Exists.intro
  refine ⟨?_, ?_⟩
  · intro W0 hSw
    try dsimp only at hSw
    go_simp
    try (with_reducible rfl)
  try simp only [Act.put, List.setIfInBounds_toArray, List.set_cons_zero, List.set_cons_succ]
  refine take_on (i := 38) (by (simp only [List.getElem?_toArray, List.getElem?_cons_succ, List.getElem?_cons_zero]) <;> rfl) (by kernel_rfl) (by kernel_rfl) (by kernel_rfl) (by intro _ _ _ _ h; exact h) (by rfl) (by assumption) ?_
  apply Exists.intro
  refine ⟨?_, ?_⟩
  · intro W0 hSw
    try dsimp only at hSw
    go_simp
    try (with_reducible rfl)
  try simp only [Act.put, List.setIfInBounds_toArray, List.set_cons_zero, List.set_cons_succ]
  refine wpAnyH_ready (rs := [5]) (by kernel_rfl) (by simp) ?_
  refine (AllReadyH.cons (by (simp only [List.getElem?_toArray, List.getElem?_cons_succ, List.getElem?_cons_zero]) <;> rfl) (fun K hK => ?_) AllReadyH.nil)
  go_simp
  refine (PC1 _).mono ?_
  rintro e w' ⟨rfl, rfl⟩
  have hkeep := hHeld
  go_wp2_with fail
  refine hK.out _ _ ?_ (fun hHeld => ?_)
  · (try dsimp only)
    first | (exact hkeep) | (exact And.intro (E.drew.cell 0 rfl 2 rfl) (And.intro (E.drew.cell 0 rfl 3 rfl) (And.intro (E.drew.cell 0 rfl 7 rfl) (And.intro (E.drew.cell 0 rfl 8 rfl) (And.intro (E.drew.cell 0 rfl 20 rfl) (And.intro (E.drew.cell 0 rfl 26 rfl) (And.intro (E.drew.cell 0 rfl 35 rfl) (And.intro (E.drew.cell 0 rfl 37 rfl) (And.intro (E.drew.cell 0 rfl 38 rfl) (E.drew.rangeMid 0 rfl 0 [v0, v1, .int .i64 bk, .int .i64 pm, v4, v5, v6, .int .i64 up, .int .i64 rt, v9, v10, v11, v12, v13, v14, v15, v16, v17, v18, v19, .int .i64 nx, v21, v22, v23, v24, v25, .int .i64 gon, .int .i64 usd, .int .i64 new, v29, v30, v31, .slice C rows.length cw, .slice N now.length cn, v34, .int .i64 ra, v36, .int .i64 lr, .int .i64 am, v39, .int .i64 tot] rfl))))))))))
  clear hK K
  try simp only [Act.put, List.setIfInBounds_toArray, List.set_cons_zero, List.set_cons_succ]
  refine take_on (i := 6) (by (simp only [List.getElem?_toArray, List.getElem?_cons_succ, List.getElem?_cons_zero]) <;> rfl) (by kernel_rfl) (by kernel_rfl) (by kernel_rfl) (by intro _ _ _ _ h; exact h) (by rfl) (by assumption) ?_
  apply Exists.intro
  refine ⟨?_, ?_⟩
  · intro W0 hSw
    try dsimp only at hSw
    go_simp
    try (with_reducible rfl)
  try simp only [Act.put, List.setIfInBounds_toArray, List.set_cons_zero, List.set_cons_succ]
  refine wpAnyH_ready (rs := [12]) (by kernel_rfl) (by simp) ?_
  refine (AllReadyH.cons (by (simp only [List.getElem?_toArray, List.getElem?_cons_succ, List.getElem?_cons_zero]) <;> rfl) (fun K hK => ?_) AllReadyH.nil)
  go_simp
  refine (PC2 _).mono ?_
  rintro e w' ⟨rfl, rfl⟩
  have hkeep := hHeld
  go_wp2_with fail
  refine hK.out _ _ ?_ (fun hHeld => ?_)
  · (try dsimp only)
    first | (exact hkeep) | (exact And.intro (E.drew.cell 0 rfl 2 rfl) (And.intro (E.drew.cell 0 rfl 3 rfl) (And.intro (E.drew.cell 0 rfl 7 rfl) (And.intro (E.drew.cell 0 rfl 8 rfl) (And.intro (E.drew.cell 0 rfl 20 rfl) (And.intro (E.drew.cell 0 rfl 26 rfl) (And.intro (E.drew.cell 0 rfl 35 rfl) (And.intro (E.drew.cell 0 rfl 37 rfl) (And.intro (E.drew.cell 0 rfl 38 rfl) (E.drew.rangeMid 0 rfl 0 [v0, v1, .int .i64 bk, .int .i64 pm, v4, v5, v6, .int .i64 up, .int .i64 rt, v9, v10, v11, v12, v13, v14, v15, v16, v17, v18, v19, .int .i64 nx, v21, v22, v23, v24, v25, .int .i64 gon, .int .i64 usd, .int .i64 new, v29, v30, v31, .slice C rows.length cw, .slice N now.length cn, v34, .int .i64 ra, v36, .int .i64 lr, .int .i64 am, v39, .int .i64 tot] rfl))))))))))
  clear hK K
  try simp only [Act.put, List.setIfInBounds_toArray, List.set_cons_zero, List.set_cons_succ]
  refine take_on (i := 13) (by (simp only [List.getElem?_toArray, List.getElem?_cons_succ, List.getElem?_cons_zero]) <;> rfl) (by kernel_rfl) (by kernel_rfl) (by kernel_rfl) (by intro _ _ _ _ h; exact h) (by rfl) (by assumption) ?_
  apply Exists.intro
  refine ⟨?_, ?_⟩
  · intro W0 hSw
    try dsimp only at hSw
    go_simp
    try (with_reducible rfl)
  try simp only [Act.put, List.setIfInBounds_toArray, List.set_cons_zero, List.set_cons_succ]
  refine wpAnyH_ready (rs := [15]) (by kernel_rfl) (by simp) ?_
  refine (AllReadyH.cons (by (simp only [List.getElem?_toArray, List.getElem?_cons_succ, List.getElem?_cons_zero]) <;> rfl) (fun K hK => ?_) AllReadyH.nil)
  go_simp
  refine (RC _ EV.low).mono ?_
  rintro e w5 ⟨rfl, B5⟩
  replace EV := EV.below B5
  have hkeep := And.intro (EV.cell 0 rfl 2 rfl) (And.intro (EV.cell 0 rfl 3 rfl) (And.intro (EV.cell 0 rfl 7 rfl) (And.intro (EV.cell 0 rfl 8 rfl) (And.intro (EV.cell 0 rfl 20 rfl) (And.intro (EV.cell 0 rfl 26 rfl) (And.intro (EV.cell 0 rfl 35 rfl) (And.intro (EV.cell 0 rfl 37 rfl) (And.intro (EV.cell 0 rfl 38 rfl) (EV.rangeMid 0 rfl 0 [v0, v1, .int .i64 bk, .int .i64 pm, v4, v5, v6, .int .i64 up, .int .i64 rt, v9, v10, v11, v12, v13, v14, v15, v16, v17, v18, v19, .int .i64 nx, v21, v22, v23, v24, v25, .int .i64 gon, .int .i64 usd, .int .i64 new, v29, v30, v31, .slice C rows.length cw, .slice N now.length cn, v34, .int .i64 ra, v36, .int .i64 lr, .int .i64 am, v39, .int .i64 tot] rfl)))))))))
  go_wp2_with fail
  refine hK.out _ _ ?_ (fun hHeld => ?_)
  · (try dsimp only)
    first | (exact hkeep) | (exact And.intro (E.drew.cell 0 rfl 2 rfl) (And.intro (E.drew.cell 0 rfl 3 rfl) (And.intro (E.drew.cell 0 rfl 7 rfl) (And.intro (E.drew.cell 0 rfl 8 rfl) (And.intro (E.drew.cell 0 rfl 20 rfl) (And.intro (E.drew.cell 0 rfl 26 rfl) (And.intro (E.drew.cell 0 rfl 35 rfl) (And.intro (E.drew.cell 0 rfl 37 rfl) (And.intro (E.drew.cell 0 rfl 38 rfl) (E.drew.rangeMid 0 rfl 0 [v0, v1, .int .i64 bk, .int .i64 pm, v4, v5, v6, .int .i64 up, .int .i64 rt, v9, v10, v11, v12, v13, v14, v15, v16, v17, v18, v19, .int .i64 nx, v21, v22, v23, v24, v25, .int .i64 gon, .int .i64 usd, .int .i64 new, v29, v30, v31, .slice C rows.length cw, .slice N now.length cn, v34, .int .i64 ra, v36, .int .i64 lr, .int .i64 am, v39, .int .i64 tot] rfl))))))))))
  clear hK K
  try simp only [Act.put, List.setIfInBounds_toArray, List.set_cons_zero, List.set_cons_succ]
  refine take_on (i := 16) (by (simp only [List.getElem?_toArray, List.getElem?_cons_succ, List.getElem?_cons_zero]) <;> rfl) (by kernel_rfl) (by kernel_rfl) (by kernel_rfl) (by intro _ _ _ _ h; exact h) (by rfl) (by assumption) ?_
  apply Exists.intro
  refine ⟨?_, ?_⟩
  · intro W0 hSw
    try dsimp only at hSw
    go_simp
    try (with_reducible rfl)
  try simp only [Act.put, List.setIfInBounds_toArray, List.set_cons_zero, List.set_cons_succ]
  refine wpAnyH_ready (rs := [33]) (by kernel_rfl) (by simp) ?_
  refine (AllReadyH.cons (by (simp only [List.getElem?_toArray, List.getElem?_cons_succ, List.getElem?_cons_zero]) <;> rfl) (fun K hK => ?_) AllReadyH.nil)
  go_simp
  refine (PC3 _).mono ?_
  rintro e w' ⟨rfl, rfl⟩
  have hkeep := hHeld
  go_wp2_with fail
  refine hK.out _ _ ?_ (fun hHeld => ?_)
  · (try dsimp only)
    first | (exact hkeep) | (exact And.intro (E.drew.cell 0 rfl 2 rfl) (And.intro (E.drew.cell 0 rfl 3 rfl) (And.intro (E.drew.cell 0 rfl 7 rfl) (And.intro (E.drew.cell 0 rfl 8 rfl) (And.intro (E.drew.cell 0 rfl 20 rfl) (And.intro (E.drew.cell 0 rfl 26 rfl) (And.intro (E.drew.cell 0 rfl 35 rfl) (And.intro (E.drew.cell 0 rfl 37 rfl) (And.intro (E.drew.cell 0 rfl 38 rfl) (E.drew.rangeMid 0 rfl 0 [v0, v1, .int .i64 bk, .int .i64 pm, v4, v5, v6, .int .i64 up, .int .i64 rt, v9, v10, v11, v12, v13, v14, v15, v16, v17, v18, v19, .int .i64 nx, v21, v22, v23, v24, v25, .int .i64 gon, .int .i64 usd, .int .i64 new, v29, v30, v31, .slice C rows.length cw, .slice N now.length cn, v34, .int .i64 ra, v36, .int .i64 lr, .int .i64 am, v39, .int .i64 tot] rfl))))))))))
  clear hK K
  try simp only [Act.put, List.setIfInBounds_toArray, List.set_cons_zero, List.set_cons_succ]
  refine take_on (i := 34) (by (simp only [List.getElem?_toArray, List.getElem?_cons_succ, List.getElem?_cons_zero]) <;> rfl) (by kernel_rfl) (by kernel_rfl) (by kernel_rfl) (by intro _ _ _ _ h; exact h) (by rfl) (by assumption) ?_
  apply Exists.intro
  refine ⟨?_, ?_⟩
  · intro W0 hSw
    try dsimp only at hSw
    go_simp
    try (with_reducible rfl)
  try simp only [Act.put, List.setIfInBounds_toArray, List.set_cons_zero, List.set_cons_succ]
  refine wpAnyH_ready (rs := [39]) (by kernel_rfl) (by simp) ?_
  refine (AllReadyH.cons (by (simp only [List.getElem?_toArray, List.getElem?_cons_succ, List.getElem?_cons_zero]) <;> rfl) (fun K hK => ?_) AllReadyH.nil)
  go_simp
  refine abs_env (EV.box1 [.int .i64 1, .int .i64 q1, .int .i64 2, .int .i64 q2, .int .i64 3, .int .i64 d, .int .i64 4, .int .i64 (ra + lr), .int .i64 5, .int .i64 am, .int .i64 6, .int .i64 q6, .int .i64 7, .int .i64 up] 61) (fun W7 EV => ?_)
  have hkeep := And.intro (EV.cell 0 rfl 2 rfl) (And.intro (EV.cell 0 rfl 3 rfl) (And.intro (EV.cell 0 rfl 7 rfl) (And.intro (EV.cell 0 rfl 8 rfl) (And.intro (EV.cell 0 rfl 20 rfl) (And.intro (EV.cell 0 rfl 26 rfl) (And.intro (EV.cell 0 rfl 35 rfl) (And.intro (EV.cell 0 rfl 37 rfl) (And.intro (EV.cell 0 rfl 38 rfl) (EV.rangeMid 0 rfl 0 [v0, v1, .int .i64 bk, .int .i64 pm, v4, v5, v6, .int .i64 up, .int .i64 rt, v9, v10, v11, v12, v13, v14, v15, v16, v17, v18, v19, .int .i64 nx, v21, v22, v23, v24, v25, .int .i64 gon, .int .i64 usd, .int .i64 new, v29, v30, v31, .slice C rows.length cw, .slice N now.length cn, v34, .int .i64 ra, v36, .int .i64 lr, .int .i64 am, v39, .int .i64 tot] rfl)))))))))
  refine hK.out _ _ ?_ (fun hHeld => ?_)
  · (try dsimp only)
    first | (exact hkeep) | (exact And.intro (E.drew.cell 0 rfl 2 rfl) (And.intro (E.drew.cell 0 rfl 3 rfl) (And.intro (E.drew.cell 0 rfl 7 rfl) (And.intro (E.drew.cell 0 rfl 8 rfl) (And.intro (E.drew.cell 0 rfl 20 rfl) (And.intro (E.drew.cell 0 rfl 26 rfl) (And.intro (E.drew.cell 0 rfl 35 rfl) (And.intro (E.drew.cell 0 rfl 37 rfl) (And.intro (E.drew.cell 0 rfl 38 rfl) (E.drew.rangeMid 0 rfl 0 [v0, v1, .int .i64 bk, .int .i64 pm, v4, v5, v6, .int .i64 up, .int .i64 rt, v9, v10, v11, v12, v13, v14, v15, v16, v17, v18, v19, .int .i64 nx, v21, v22, v23, v24, v25, .int .i64 gon, .int .i64 usd, .int .i64 new, v29, v30, v31, .slice C rows.length cw, .slice N now.length cn, v34, .int .i64 ra, v36, .int .i64 lr, .int .i64 am, v39, .int .i64 tot] rfl))))))))))
  clear hK K
  try simp only [Act.put, List.setIfInBounds_toArray, List.set_cons_zero, List.set_cons_succ]
  refine take_on (i := 40) (by (simp only [List.getElem?_toArray, List.getElem?_cons_succ, List.getElem?_cons_zero]) <;> rfl) (by kernel_rfl) (by kernel_rfl) (by kernel_rfl) (by intro _ _ _ _ h; exact h) (by rfl) (by assumption) ?_
  apply Exists.intro
  refine ⟨?_, ?_⟩
  · intro W0 hSw
    try dsimp only at hSw
    go_simp
    try (with_reducible rfl)
  try simp only [Act.put, List.setIfInBounds_toArray, List.set_cons_zero, List.set_cons_succ]
  refine wpAnyH_done (by kernel_rfl) ?_ _
  clear hHeld hkeep E PC1 PC2 PC3 RC hw1
  obtain ⟨xs, hxs⟩ : ∃ xs : List SItem, Hid (xs = [⟨1, q1⟩, ⟨2, q2⟩, ⟨3, d⟩, ⟨4, ra + lr⟩, ⟨5, am⟩, ⟨6, q6⟩, ⟨7, up⟩]) := ⟨_, rfl⟩
  have hx7 : xs.length = 7 := by rw [hxs.out]; rfl
  generalize w5.heap.size = bs at *
  have ow : Ow kItem (Hp.box bs [.int .i64 1, .int .i64 q1, .int .i64 2, .int .i64 q2, .int .i64 3, .int .i64 d, .int .i64 4, .int .i64 (ra + lr), .int .i64 5, .int .i64 am, .int .i64 6, .int .i64 q6, .int .i64 7, .int .i64 up] 61) (some ⟨bs, 0, none⟩) xs.length xs := Ow.lit (by rw [hxs.out]; exact Hp.one_self _ _) (by rw [hx7]; decide)
  rw [hx7] at ow
  have hsum : Hid ((xs.map (·.amt)).sum = q1 + q2 + d + (ra + lr) + am + q6 + up) := by unfold Hid; rw [hxs.out]; simp; omega
  have SC := fun (W : World) (hW : (Hp.box bs [.int .i64 1, .int .i64 q1, .int .i64 2, .int .i64 q2, .int .i64 3, .int .i64 d, .int .i64 4, .int .i64 (ra + lr), .int .i64 5, .int .i64 am, .int .i64 6, .int .i64 q6, .int .i64 7, .int .i64 up] 61).sub W) => recSum_calls (some ⟨bs, 0, none⟩) 7 xs _ W hW ow.sl (by omega) (by
    intro i hi
    rw [hxs.out] at hi
    simp at hi
    rcases hi with rfl | rfl | rfl | rfl | rfl | rfl | rfl <;> simp <;> omega)
  rw [hx7] at SC
  generalize (xs.map (·.amt)).sum = sm at *
  have e8 : tot - sm = s8 := by rw [hsum.out]; exact h8.out
  have hw8 : IntKind.i64.wrap (tot - sm) = tot - sm := by rw [IntKind.wrap_i64]; omega
  have hw9 : IntKind.i64.wrap s8 = s8 := by rw [IntKind.wrap_i64]; omega
  replace hx7 := Lib.hid hx7
  go_upto_region 2 with fail
  have EW := EV.drew
  refine wp_region_held_drew (S := (fun V => V.cell? ⟨b, 40, none⟩ = some (.int .i64 tot))) (by kernel_rfl) ?_ (fun hHeld => ?_)
  · (try dsimp only)
    first | (exact EV.drew.cell 0 rfl 40 rfl)
  refine take_on (i := 0) (by (simp only [List.getElem?_toArray, List.getElem?_cons_succ, List.getElem?_cons_zero]) <;> rfl) (by kernel_rfl) (by kernel_rfl) (by kernel_rfl) (by intro _ _ _ _ h; exact h) (by rfl) (by assumption) ?_
  apply Exists.intro
  refine ⟨?_, ?_⟩
  · intro W0 hSw
    try dsimp only at hSw
    go_simp
    try (with_reducible rfl)
  try simp only [Act.put, List.setIfInBounds_toArray, List.set_cons_zero, List.set_cons_succ]
  refine take_on (i := 1) (by (simp only [List.getElem?_toArray, List.getElem?_cons_succ, List.getElem?_cons_zero]) <;> rfl) (by kernel_rfl) (by kernel_rfl) (by kernel_rfl) (by intro _ _ _ _ h; exact h) (by rfl) (by assumption) ?_
  apply Exists.intro
  refine ⟨?_, ?_⟩
  · intro W0 hSw
    try dsimp only at hSw
    go_simp
    try (with_reducible rfl)
  try simp only [Act.put, List.setIfInBounds_toArray, List.set_cons_zero, List.set_cons_succ]
  refine take_on (i := 2) (by (simp only [List.getElem?_toArray, List.getElem?_cons_succ, List.getElem?_cons_zero]) <;> rfl) (by kernel_rfl) (by kernel_rfl) (by kernel_rfl) (by intro _ _ _ _ h; exact h) (by rfl) (by assumption) ?_
  apply Exists.intro
  refine ⟨?_, ?_⟩
  · intro W0 hSw
    try dsimp only at hSw
    go_simp
    try (with_reducible rfl)
  try simp only [Act.put, List.setIfInBounds_toArray, List.set_cons_zero, List.set_cons_succ]
  refine take_on (i := 3) (by (simp only [List.getElem?_toArray, List.getElem?_cons_succ, List.getElem?_cons_zero]) <;> rfl) (by kernel_rfl) (by kernel_rfl) (by kernel_rfl) (by intro _ _ _ _ h; exact h) (by rfl) (by assumption) ?_
  apply Exists.intro
  refine ⟨?_, ?_⟩
  · intro W0 hSw
    try dsimp only at hSw
    go_simp
    try (with_reducible rfl)
  try simp only [Act.put, List.setIfInBounds_toArray, List.set_cons_zero, List.set_cons_succ]
  refine wpAnyH_ready (rs := [4]) (by kernel_rfl) (by simp) ?_
  refine (AllReadyH.cons (by (simp only [List.getElem?_toArray, List.getElem?_cons_succ, List.getElem?_cons_zero]) <;> rfl) (fun K hK => ?_) AllReadyH.nil)
  go_simp
  refine (SC _ (EW.sub 1 rfl)).mono ?_
  rintro e w8 ⟨rfl, B8⟩
  replace EW := EW.below B8
  have hkeep := EW.cell 0 rfl 40 rfl
  go_wp2_with fail
  refine hK.out _ _ ?_ (fun hHeld => ?_)
  · (try dsimp only)
    first | (exact hkeep) | (exact EV.drew.cell 0 rfl 40 rfl)
  clear hK K
  try simp only [Act.put, List.setIfInBounds_toArray, List.set_cons_zero, List.set_cons_succ]
  refine take_on (i := 5) (by (simp only [List.getElem?_toArray, List.getElem?_cons_succ, List.getElem?_cons_zero]) <;> rfl) (by kernel_rfl) (by kernel_rfl) (by kernel_rfl) (by intro _ _ _ _ h; exact h) (by rfl) (by assumption) ?_
  apply Exists.intro
  refine ⟨?_, ?_⟩
  · intro W0 hSw
    try dsimp only at hSw
    go_simp
    try (with_reducible rfl)
  try simp only [Act.put, List.setIfInBounds_toArray, List.set_cons_zero, List.set_cons_succ]
  refine take_on (i := 6) (by (simp only [List.getElem?_toArray, List.getElem?_cons_succ, List.getElem?_cons_zero]) <;> rfl) (by kernel_rfl) (by kernel_rfl) (by kernel_rfl) (by intro _ _ _ _ h; exact h) (by rfl) (by assumption) ?_
  apply Exists.intro
  refine ⟨?_, ?_⟩
  · intro W0 hSw
    try dsimp only at hSw
    go_simp
    try (with_reducible rfl)
  try simp only [Act.put, List.setIfInBounds_toArray, List.set_cons_zero, List.set_cons_succ]
  refine wpAnyH_ready (rs := [7]) (by kernel_rfl) (by simp) ?_
  refine (AllReadyH.cons (by (simp only [List.getElem?_toArray, List.getElem?_cons_succ, List.getElem?_cons_zero]) <;> rfl) (fun K hK => ?_) AllReadyH.nil)
  go_simp
  refine abs_env (EW.box1 [.int .i64 8, .int .i64 s8] 61) (fun W9 EW => ?_)
  have hkeep := EW.cell 0 rfl 40 rfl
  refine hK.out _ _ ?_ (fun hHeld => ?_)
  · (try dsimp only)
    first | (exact hkeep) | (exact EV.drew.cell 0 rfl 40 rfl)
  clear hK K
  try simp only [Act.put, List.setIfInBounds_toArray, List.set_cons_zero, List.set_cons_succ]
  refine wpAnyH_ready (rs := [8]) (by kernel_rfl) (by simp) ?_
  refine (AllReadyH.cons (by (simp only [List.getElem?_toArray, List.getElem?_cons_succ, List.getElem?_cons_zero]) <;> rfl) (fun K hK => ?_) AllReadyH.nil)
  refine wp_app1 (k := kItem) (A := some ⟨bs, 0, none⟩) (cap := 7) (xs := xs) (y := ⟨8, s8⟩) (hx := Hp.none) Tryz.underlying57 info_item (by rfl) (by rfl) 7 1 (by rfl) (by rfl) hx7.out ow (EW.sub 2 rfl) (EW.sub 1 rfl _ _ (Hp.one_self _ _)) rfl (Hp.none_sub _) (Hp.apart_none _) (by omega) (by omega) ?_
  intro C' cap' w9 h9 o9 u9
  replace EW := EW.upd 2 rfl u9.flat
  simp only [List.set_cons_zero, List.set_cons_succ] at EW
  have hkeep := EW.cell 0 rfl 40 rfl
  refine hK.out _ _ ?_ (fun hHeld => ?_)
  · (try dsimp only)
    first | (exact hkeep) | (exact EV.drew.cell 0 rfl 40 rfl)
  clear hK K
  try simp only [Act.put, List.setIfInBounds_toArray, List.set_cons_zero, List.set_cons_succ]
  refine take_on (i := 9) (by (simp only [List.getElem?_toArray, List.getElem?_cons_succ, List.getElem?_cons_zero]) <;> rfl) (by kernel_rfl) (by kernel_rfl) (by kernel_rfl) (by intro _ _ _ _ h; exact h) (by rfl) (by assumption) ?_
  apply Exists.intro
  refine ⟨?_, ?_⟩
  · intro W0 hSw
    try dsimp only at hSw
    go_simp
    try (with_reducible rfl)
  try simp only [Act.put, List.setIfInBounds_toArray, List.set_cons_zero, List.set_cons_succ]
  refine wpAnyH_done (by kernel_rfl) ?_ _
  have EP := EW.pick (h := h9) (by simp)
  rw [hxs.out] at o9
  clear hHeld hkeep EV EW SC
  go_wp2
  go_ret
  exact ⟨C', cap', h9, rfl, o9, EP⟩
theorem recTerms_calls (C : Option Addr) (cw n : Nat) (v0 v1 v2 v3 v4 v5 v6 v7 v8 v9 v10 v11 v12 v13 v14 v15 v16 v17 v18 v19 v20 v21 v22 v23 v24 v25 v26 v27 v28 v29 v30 v31 v33 v34 v35 v36 v37 v38 v39 v40 : Value) (w : World) (hn : n ≤ 1000) :
    Calls Tryz.prog 46 #[.agg #[v0, v1, v2, v3, v4, v5, v6, v7, v8, v9, v10, v11, v12, v13, v14, v15, v16, v17, v18, v19, v20, v21, v22, v23, v24, v25, v26, v27, v28, v29, v30, v31, .slice C n cw, v33, v34, v35, v36, v37, v38, v39, v40]] w fun e w' => e = .returned (.int .i64 (8 + 4 * n)) ∧ Below w.heap.size w w' := by
  have E := (Env.start w).box0 [v0, v1, v2, v3, v4, v5, v6, v7, v8, v9, v10, v11, v12, v13, v14, v15, v16, v17, v18, v19, v20, v21, v22, v23, v24, v25, v26, v27, v28, v29, v30, v31, .slice C n cw, v33, v34, v35, v36, v37, v38, v39, v40] 44
  have c32 := E.cell 0 rfl 32 rfl
  have EL := E.low
  go_enter Tryz.func46, Tryz.ntmps46
  go_wp2
  go_ret
  exact ⟨rfl, EL⟩
end Go.Proofs.YtnfedcaehkcffaaGreat
end
section
/- keep.Same of lists of items: the same things? -/
namespace Go.Proofs.YtnfedcaehkcffaaGreat
open Go.RowKit Go.Sl
set_option maxHeartbeats 400000
theorem equalIn_item (d : Nat) (x0 x1 y0 y1 : Int) (w : World) : (Op.equalIn (d + 2) 61 (.agg #[.int .i64 x0, .int .i64 x1]) (.agg #[.int .i64 y0, .int .i64 y1])).run Tryz.prog w = .ok (x0 == y0 && (x1 == y1 && true)) w := by
  refine equalIn_struct (d := d + 1) Tryz.underlying61 (by kernel_rfl) ?_
  refine eqFields_cons (by rfl) (by go_simp; rfl) (by go_simp; rfl) (by go_simp) ?_
  refine eqFields_cons (by rfl) (by go_simp; rfl) (by go_simp; rfl) (by go_simp) ?_
  exact eqFields_nil
theorem ne_item (x y : SItem) (w : World) : (binOp .neq 61 (.agg #[.int .i64 x.kind, .int .i64 x.amt]) (.agg #[.int .i64 y.kind, .int .i64 y.amt])).run Tryz.prog w = .ok (.bool (neB x y)) w := by
  have h := equalIn_item 9998 x.kind x.amt y.kind y.amt w
  simp only [Nat.reduceAdd] at h
  rw [neq_struct h]
  have : (x.kind == y.kind && (x.amt == y.amt && true)) = decide (x = y) := by
    rw [Bool.eq_iff_iff]; cases x; cases y; simp
  rw [this]; rfl
theorem same_item (A B : Option Addr) (ca cb : Nat) (xs ys : List SItem) (h k : Hp) (w : World) (hs : h.sub w) (ks : k.sub w) (sx : Sl kItem h A ca xs) (sy : Sl kItem k B cb ys) :
    Calls Tryz.prog 27 #[.slice A xs.length ca, .slice B ys.length cb] w fun e w' => e = .returned (.bool (eqB xs ys)) ∧ Below w.heap.size w w' := by
  have m1 := sx.small
  have m2 := sy.small
  by_cases hl : xs.length = ys.length
  · have hl1 : ((xs.length : Int) == (ys.length : Int)) = true := by simp [hl]
    have hl2 : ((xs.length : Int) != (ys.length : Int)) = false := by simp [hl]
    have hL := Lib.hid hl
    clear hl
    go_enter Tryz.func27, Tryz.ntmps27
    go_wp2
    clear hl1 hl2
    go_loopw [5] (fun i wr => ∃ j : Nat, j ≤ xs.length ∧ i = .int .i64 j ∧ Hid (xs.take j = ys.take j) ∧ Below w.heap.size w wr) (fun i _ => xs.length - (intOf i).toNat)
    case atStart => exact ⟨0, by omega, rfl, rfl, Below.refl _ _⟩
    case round =>
      obtain ⟨j, hj, rfl, he, hb⟩ := hrel
      by_cases hlt : j < xs.length
      · have hlt2 : j < ys.length := by have := hL.out; omega
        obtain ⟨x, hx⟩ := some_of_lt hlt
        obtain ⟨y, hy⟩ := some_of_lt hlt2
        obtain ⟨b1, o1, rfl, c1, c2⟩ := sx.item (hs.of_below hb) hx
        obtain ⟨b2, o2, rfl, d1, d2⟩ := sy.item (ks.of_below hb) hy
        have hn := ne_item x y
        have i1 : (0 : Int) ≤ (j : Int) := by omega
        have i2 : (j : Int) < (xs.length : Int) := by omega
        have i3 : (j : Int) < (ys.length : Int) := by omega
        have hE := take_both hx hy
        by_cases hxy : x = y
        · have hd := neB_f hxy
          have hE2 := hE.2 ⟨he, hxy⟩
          clear hxy hE
          go_wp2
          go_region_held3 (fun w' => w'.cell? ⟨b1, o1 + j * 2, none⟩ = some (.int .i64 x.kind) ∧ w'.cell? ⟨b1, o1 + j * 2 + 1, none⟩ = some (.int .i64 x.amt) ∧ w'.cell? ⟨b2, o2 + j * 2, none⟩ = some (.int .i64 y.kind) ∧ w'.cell? ⟨b2, o2 + j * 2 + 1, none⟩ = some (.int .i64 y.amt)) (go_keep) (fail)
          go_wp2
          go_roundw
          case rel => exact ⟨j + 1, by omega, by go_num, hE2, hb.drew⟩
          case measure => simp [intOf]; omega
        · have hd := neB_t hxy
          have hne : Hid (xs ≠ ys) := fun e => hxy (by have := hx.out; rw [e, hy.out] at this; exact (Option.some.inj this).symm)
          clear hxy hE
          go_wp2
          go_region_held3 (fun w' => w'.cell? ⟨b1, o1 + j * 2, none⟩ = some (.int .i64 x.kind) ∧ w'.cell? ⟨b1, o1 + j * 2 + 1, none⟩ = some (.int .i64 x.amt) ∧ w'.cell? ⟨b2, o2 + j * 2, none⟩ = some (.int .i64 y.kind) ∧ w'.cell? ⟨b2, o2 + j * 2 + 1, none⟩ = some (.int .i64 y.amt)) (go_keep) (fail)
          go_wp2
          go_ret
          exact ⟨by rw [eqB_f hne.out]; rfl, hb.drew⟩
      · have hfin : Hid (xs = ys) := by
          have h1 := he.out
          have hjl : j = xs.length := by omega
          rw [hjl, List.take_length] at h1
          rw [h1, hL.out, List.take_length]; rfl
        go_wp2
        go_ret
        exact ⟨by rw [eqB_t hfin.out]; rfl, hb⟩
  · have hl1 : ((xs.length : Int) == (ys.length : Int)) = false := by simp; omega
    have hl2 : ((xs.length : Int) != (ys.length : Int)) = true := by simp; omega
    have hne : Hid (xs ≠ ys) := fun e => hl (by rw [e])
    clear hl
    go_enter Tryz.func27, Tryz.ntmps27
    go_wp2
    go_ret
    exact ⟨by rw [eqB_f hne.out]; rfl, Below.refl _ _⟩
end Go.Proofs.YtnfedcaehkcffaaGreat
end
