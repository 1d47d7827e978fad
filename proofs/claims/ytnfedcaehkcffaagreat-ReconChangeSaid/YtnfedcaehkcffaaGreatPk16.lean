/- Walks and plain facts that the laws of this seat share, part 16: contracts of functions, each said at its theorem. -/
import Derived.Test.YtnfedcaehkcffaaGreatPk15
import Derived.Deep.RegionHeld3
import Derived.WalkMore
import Derived.ScopeJumps
import Derived.Scope
import Derived.Deep.DeepCutAuto
set_option linter.all false
section
/- The walks of law19.Input and closing.None. -/
namespace Go.Proofs.YtnfedcaehkcffaaGreat
open Go.RowKit Go.Sl
set_option maxHeartbeats 1000000
set_option maxRecDepth 100000
theorem law19Input_calls (x : SInp) (w : World) : Calls Tryz.prog 38 #[.agg #[.string x.j, .int .i64 x.per, .int .i64 x.book, .int .i64 x.perm, .int .i64 x.judge, .int .i64 x.cap, .int .i64 x.life, .int .i64 x.up]] w (InAns x w) := by
  have HS : Hid (∀ W' : World, Below w.heap.size w W' → InAns x w (.returned (.agg #[.string x.j, .int .i64 x.per, .int .i64 x.book, .int .i64 x.perm, .int .i64 x.judge, .int .i64 x.cap, .int .i64 x.life, .int .i64 x.up])) W') := fun W' h => ⟨rfl, h⟩
  have E := ((Env.start w).alloc (.cells #[.string x.j, .int .i64 x.per, .int .i64 x.book, .int .i64 x.perm, .int .i64 x.judge, .int .i64 x.cap, .int .i64 x.life, .int .i64 x.up] 82)).alloc (.cells #[.string ⟨#[]⟩, .int .i64 0, .int .i64 0, .int .i64 0, .int .i64 0, .int .i64 0, .int .i64 0, .int .i64 0] 31)
  simp at E
  go_enter Tryz.func38, Tryz.ntmps38
  go_wp2_with (first
    | (refine wpList_load_mid rfl 82 _ rfl w.heap.size 0 rfl _ _ (E.range 0 rfl) Tryz.underlying82 rfl (by kernel_rfl) ?_)
    | (refine wpList_store_mid rfl 31 _ _ rfl (w.heap.size + 1) 0 _ rfl rfl (E.there 1 rfl _ rfl) (by kernel_rfl) (by simp [Value.oneCell']) ?_))
  have EN := E.setAll 1 rfl [.string x.j, .int .i64 x.per, .int .i64 x.book, .int .i64 x.perm, .int .i64 x.judge, .int .i64 x.cap, .int .i64 x.life, .int .i64 x.up] rfl
  simp only [List.set_cons_zero, List.set_cons_succ] at EN
  have d0 := EN.cell 1 rfl 0 rfl
  have d1 := EN.cell 1 rfl 1 rfl
  have d2 := EN.cell 1 rfl 2 rfl
  have d3 := EN.cell 1 rfl 3 rfl
  have d4 := EN.cell 1 rfl 4 rfl
  have d5 := EN.cell 1 rfl 5 rfl
  have d6 := EN.cell 1 rfl 6 rfl
  have d7 := EN.cell 1 rfl 7 rfl
  generalize World.setCells _ (w.heap.size + 1) 0 _ = W9 at *
  refine bodyPost_ret (v := .agg #[.string x.j, .int .i64 x.per, .int .i64 x.book, .int .i64 x.perm, .int .i64 x.judge, .int .i64 x.cap, .int .i64 x.life, .int .i64 x.up]) ?_ rfl (HS.out _ EN.low)
  simp [results, Tryz.results38, go_sem, d0, d1, d2, d3, d4, d5, d6, d7]
theorem closingNone_calls (w : World) : Calls Tryz.prog 18 #[] w fun e w' => e = .returned (.agg #[.int .i64 (-1), .slice none 0 0, .slice none 0 0, .int .i64 0, .int .i64 0, .int .i64 0, .int .i64 0, .int .i64 0]) ∧ Below w.heap.size w w' := by
  have E := (Env.start w).alloc (.cells #[.int .i64 0, .slice none 0 0, .slice none 0 0, .int .i64 0, .int .i64 0, .int .i64 0, .int .i64 0, .int .i64 0] 37)
  simp at E
  go_enter Tryz.func18, Tryz.ntmps18
  go_wp2_with (first
    | (refine wpList_store_mid rfl 37 _ _ rfl w.heap.size 0 _ rfl rfl (E.there 0 rfl _ rfl) (by kernel_rfl) (by simp [Value.oneCell']) ?_))
  have EN := E.setAll 0 rfl [.int .i64 (-1), .slice none 0 0, .slice none 0 0, .int .i64 0, .int .i64 0, .int .i64 0, .int .i64 0, .int .i64 0] rfl
  simp only [List.set_cons_zero, List.set_cons_succ] at EN
  have d0 := EN.cell 0 rfl 0 rfl
  have d1 := EN.cell 0 rfl 1 rfl
  have d2 := EN.cell 0 rfl 2 rfl
  have d3 := EN.cell 0 rfl 3 rfl
  have d4 := EN.cell 0 rfl 4 rfl
  have d5 := EN.cell 0 rfl 5 rfl
  have d6 := EN.cell 0 rfl 6 rfl
  have d7 := EN.cell 0 rfl 7 rfl
  generalize World.setCells _ w.heap.size 0 _ = W9 at *
  refine bodyPost_ret (v := .agg #[.int .i64 (-1), .slice none 0 0, .slice none 0 0, .int .i64 0, .int .i64 0, .int .i64 0, .int .i64 0, .int .i64 0]) ?_ rfl ⟨rfl, EN.low⟩
  simp [results, Tryz.results18, go_sem, d0, d1, d2, d3, d4, d5, d6, d7]
end Go.Proofs.YtnfedcaehkcffaaGreat
end
section
/- The walk of closing.own. -/
namespace Go.Proofs.YtnfedcaehkcffaaGreat
open Go.RowKit Go.Sl
set_option maxHeartbeats 1000000
set_option maxRecDepth 100000
/-- Balances in new memory. -/
def OwnBal (per nx lf tm ls al : Int) (xs : List STri) (rs : List Int) (w : World) (e : Ending) (w' : World) : Prop :=
  ∃ (C D : Option Addr) (c d : Nat) (h k : Hp), e = .returned (.agg #[.int .i64 per, .slice C xs.length c, .slice D rs.length d, .int .i64 nx, .int .i64 lf, .int .i64 tm, .int .i64 ls, .int .i64 al]) ∧ Ow kTri h C c xs ∧ Ow kInt k D d rs ∧ Env w w' [h, k]
theorem closingOwn_calls (per nx lf tm ls al : Int) (A B : Option Addr) (ca cb : Nat) (xs : List STri) (rs : List Int) (h k : Hp) (w : World) (hs : h.sub w) (ks : k.sub w) (sx : Sl kTri h A ca xs) (sr : Sl kInt k B cb rs) (hx : xs.length ≤ 1000000) (hr : rs.length ≤ 1000000) :
    Calls Tryz.prog 52 #[.agg #[.int .i64 per, .slice A xs.length ca, .slice B rs.length cb, .int .i64 nx, .int .i64 lf, .int .i64 tm, .int .i64 ls, .int .i64 al]] w (OwnBal per nx lf tm ls al xs rs w) := by
  have E := ((Env.start w).alloc (.cells #[.int .i64 per, .slice A xs.length ca, .slice B rs.length cb, .int .i64 nx, .int .i64 lf, .int .i64 tm, .int .i64 ls, .int .i64 al] 37)).alloc (.cells #[.int .i64 0, .slice none 0 0, .slice none 0 0, .int .i64 0, .int .i64 0, .int .i64 0, .int .i64 0, .int .i64 0] 37)
  simp at E
  have C1 := fun (W : World) (hW : Below w.heap.size w W) => clone_bucket A ca xs h W (hs.of_below hW) sx hx
  have C2 := fun (W : World) (hW : Below w.heap.size w W) => clone_int B cb rs k W (ks.of_below hW) sr hr
  go_enter Tryz.func52, Tryz.ntmps52
  go_wp2
  obtain ⟨W, hW⟩ : ∃ W, W = (w.alloc (.cells #[.int .i64 per, .slice A xs.length ca, .slice B rs.length cb, .int .i64 nx, .int .i64 lf, .int .i64 tm, .int .i64 ls, .int .i64 al] 37)).alloc (.cells #[.int .i64 0, .slice none 0 0, .slice none 0 0, .int .i64 0, .int .i64 0, .int .i64 0, .int .i64 0, .int .i64 0] 37) := ⟨_, rfl⟩
  rw [← hW] at E
  rw [← hW]
  clear hW
  have EV := E.drew
  have r1 := EV.cell 0 rfl 1 rfl
  have r2 := EV.cell 0 rfl 2 rfl
  refine wp_region_held_drew (S := (fun V => 0 ≤ V.heap.size)) (by kernel_rfl) ?_ (fun hHeld => ?_)
  · (try dsimp only)
    first | (exact Nat.zero_le _)
  refine take_on (i := 0) (by (simp only [List.getElem?_toArray, List.getElem?_cons_succ, List.getElem?_cons_zero]) <;> rfl) (by kernel_rfl) (by kernel_rfl) (by kernel_rfl) (by intro _ _ _ _ h; exact h) (by rfl) (by assumption) ?_
  apply Exists.intro
  refine ⟨?_, ?_⟩
  · intro W0 hSw
    try dsimp only at hSw
    go_simp
    try (with_reducible rfl)
  try simp only [Act.put, List.setIfInBounds_toArray, List.set_cons_zero, List.set_cons_succ]
  refine take_on (i := 3) (by (simp only [List.getElem?_toArray, List.getElem?_cons_succ, List.getElem?_cons_zero]) <;> rfl) (by kernel_rfl) (by kernel_rfl) (by kernel_rfl) (by intro _ _ _ _ h; exact h) (by rfl) (by assumption) ?_
  apply Exists.intro
  refine ⟨?_, ?_⟩
  · intro W0 hSw
    try dsimp only at hSw
    go_simp
    try (with_reducible rfl)
  try simp only [Act.put, List.setIfInBounds_toArray, List.set_cons_zero, List.set_cons_succ]
  refine wpAnyH_ready (rs := [1, 4]) (by kernel_rfl) (by simp) ?_
  refine (AllReadyH.cons (by (simp only [List.getElem?_toArray, List.getElem?_cons_succ, List.getElem?_cons_zero]) <;> rfl) (fun K hK => ?_) (AllReadyH.cons (by (simp only [List.getElem?_toArray, List.getElem?_cons_succ, List.getElem?_cons_zero]) <;> rfl) (fun K hK => ?_) AllReadyH.nil))
  · go_simp
    refine hK.out _ _ ?_ (fun hHeld => ?_)
    · (try dsimp only)
      first | (exact hkeep) | (exact Nat.zero_le _)
    clear hK K
    try simp only [Act.put, List.setIfInBounds_toArray, List.set_cons_zero, List.set_cons_succ]
    refine wpAnyH_ready (rs := [2, 4]) (by kernel_rfl) (by simp) ?_
    refine (AllReadyH.cons (by (simp only [List.getElem?_toArray, List.getElem?_cons_succ, List.getElem?_cons_zero]) <;> rfl) (fun K hK => ?_) (AllReadyH.cons (by (simp only [List.getElem?_toArray, List.getElem?_cons_succ, List.getElem?_cons_zero]) <;> rfl) (fun K hK => ?_) AllReadyH.nil))
    · go_simp
      refine (C1 _ EV.low).mono ?_
      rintro e w5 ⟨C5, n5, h5, rfl, o5, u5⟩
      replace EV := EV.new u5
      simp at EV
      have r1 := EV.cell 0 rfl 1 rfl
      have r2 := EV.cell 0 rfl 2 rfl
      have rf := fun k => EV.free 0 rfl k
      go_wp2_with fail
      refine hK.out _ _ ?_ (fun hHeld => ?_)
      · (try dsimp only)
        first | (exact hkeep) | (exact Nat.zero_le _)
      clear hK K
      try simp only [Act.put, List.setIfInBounds_toArray, List.set_cons_zero, List.set_cons_succ]
      refine wpAnyH_ready (rs := [4]) (by kernel_rfl) (by simp) ?_
      refine (AllReadyH.cons (by (simp only [List.getElem?_toArray, List.getElem?_cons_succ, List.getElem?_cons_zero]) <;> rfl) (fun K hK => ?_) AllReadyH.nil)
      go_simp
      refine hK.out _ _ ?_ (fun hHeld => ?_)
      · (try dsimp only)
        first | (exact hkeep) | (exact Nat.zero_le _)
      clear hK K
      try simp only [Act.put, List.setIfInBounds_toArray, List.set_cons_zero, List.set_cons_succ]
      refine take_on (i := 6) (by (simp only [List.getElem?_toArray, List.getElem?_cons_succ, List.getElem?_cons_zero]) <;> rfl) (by kernel_rfl) (by kernel_rfl) (by kernel_rfl) (by intro _ _ _ _ h; exact h) (by rfl) (by assumption) ?_
      apply Exists.intro
      refine ⟨?_, ?_⟩
      · intro W0 hSw
        try dsimp only at hSw
        go_simp
        try (with_reducible rfl)
      try simp only [Act.put, List.setIfInBounds_toArray, List.set_cons_zero, List.set_cons_succ]
      refine wpAnyH_ready (rs := [5]) (by kernel_rfl) (by simp) ?_
      refine (AllReadyH.cons (by (simp only [List.getElem?_toArray, List.getElem?_cons_succ, List.getElem?_cons_zero]) <;> rfl) (fun K hK => ?_) AllReadyH.nil)
      go_simp
      refine (C2 _ EV.low).mono ?_
      rintro e w6 ⟨C6, n6, h6, rfl, o6, u6⟩
      replace EV := EV.new u6
      simp at EV
      have r1 := EV.cell 0 rfl 1 rfl
      have r2 := EV.cell 0 rfl 2 rfl
      have rf := fun k => EV.free 0 rfl k
      go_wp2_with fail
      refine hK.out _ _ ?_ (fun hHeld => ?_)
      · (try dsimp only)
        first | (exact hkeep) | (exact Nat.zero_le _)
      clear hK K
      try simp only [Act.put, List.setIfInBounds_toArray, List.set_cons_zero, List.set_cons_succ]
      refine wpAnyH_ready (rs := [7]) (by kernel_rfl) (by simp) ?_
      refine (AllReadyH.cons (by (simp only [List.getElem?_toArray, List.getElem?_cons_succ, List.getElem?_cons_zero]) <;> rfl) (fun K hK => ?_) AllReadyH.nil)
      go_simp
      refine abs_env (EV.cellset 0 rfl 1 (.slice C5 xs.length n5)) (fun W7 EV => ?_)
      simp only [List.set_cons_zero, List.set_cons_succ] at EV
      have r1 := EV.cell 0 rfl 1 rfl
      have r2 := EV.cell 0 rfl 2 rfl
      have rf := fun k => EV.free 0 rfl k
      refine hK.out _ _ ?_ (fun hHeld => ?_)
      · (try dsimp only)
        first | (exact hkeep) | (exact Nat.zero_le _)
      clear hK K
      try simp only [Act.put, List.setIfInBounds_toArray, List.set_cons_zero, List.set_cons_succ]
      refine take_on (i := 8) (by (simp only [List.getElem?_toArray, List.getElem?_cons_succ, List.getElem?_cons_zero]) <;> rfl) (by kernel_rfl) (by kernel_rfl) (by kernel_rfl) (by intro _ _ _ _ h; exact h) (by rfl) (by assumption) ?_
      apply Exists.intro
      refine ⟨?_, ?_⟩
      · intro W0 hSw
        try dsimp only at hSw
        go_simp
        try (with_reducible rfl)
      try simp only [Act.put, List.setIfInBounds_toArray, List.set_cons_zero, List.set_cons_succ]
      refine wpAnyH_ready (rs := [9]) (by kernel_rfl) (by simp) ?_
      refine (AllReadyH.cons (by (simp only [List.getElem?_toArray, List.getElem?_cons_succ, List.getElem?_cons_zero]) <;> rfl) (fun K hK => ?_) AllReadyH.nil)
      go_simp
      refine abs_env (EV.cellset 0 rfl 2 (.slice C6 rs.length n6)) (fun W9 EV => ?_)
      simp only [List.set_cons_zero, List.set_cons_succ] at EV
      refine hK.out _ _ ?_ (fun hHeld => ?_)
      · (try dsimp only)
        first | (exact hkeep) | (exact Nat.zero_le _)
      clear hK K
      try simp only [Act.put, List.setIfInBounds_toArray, List.set_cons_zero, List.set_cons_succ]
      refine wpAnyH_done (by kernel_rfl) ?_ _
      clear r1 r2 rf C1 C2 E
      go_wp2_with (first
        | (refine wpList_load_mid rfl 37 _ rfl w.heap.size 0 rfl _ _ (EV.range 0 rfl) Tryz.underlying37 rfl (by kernel_rfl) ?_)
        | (refine wpList_store_mid rfl 37 _ _ rfl (w.heap.size + 1) 0 _ rfl rfl (EV.there 1 rfl _ rfl) (by kernel_rfl) (by simp [Value.oneCell']) ?_))
      have EN := EV.setAll 1 rfl [.int .i64 per, .slice C5 xs.length n5, .slice C6 rs.length n6, .int .i64 nx, .int .i64 lf, .int .i64 tm, .int .i64 ls, .int .i64 al] rfl
      simp only [List.set_cons_zero, List.set_cons_succ] at EN
      have d0 := EN.cell 1 rfl 0 rfl
      have d1 := EN.cell 1 rfl 1 rfl
      have d2 := EN.cell 1 rfl 2 rfl
      have d3 := EN.cell 1 rfl 3 rfl
      have d4 := EN.cell 1 rfl 4 rfl
      have d5 := EN.cell 1 rfl 5 rfl
      have d6 := EN.cell 1 rfl 6 rfl
      have d7 := EN.cell 1 rfl 7 rfl
      have EM := (EN.drop 0).drop 0
      simp at EM
      generalize World.setCells _ (w.heap.size + 1) 0 _ = W9 at *
      refine bodyPost_ret (v := .agg #[.int .i64 per, .slice C5 xs.length n5, .slice C6 rs.length n6, .int .i64 nx, .int .i64 lf, .int .i64 tm, .int .i64 ls, .int .i64 al]) ?_ rfl ⟨C5, C6, n5, n6, h5, h6, rfl, o5, o6, EM⟩
      simp [results, Tryz.results52, go_sem, d0, d1, d2, d3, d4, d5, d6, d7]
    · go_simp
      refine hK.out _ _ ?_ (fun hHeld => ?_)
      · (try dsimp only)
        first | (exact hkeep) | (exact Nat.zero_le _)
      clear hK K
      try simp only [Act.put, List.setIfInBounds_toArray, List.set_cons_zero, List.set_cons_succ]
      refine wpAnyH_ready (rs := [2]) (by kernel_rfl) (by simp) ?_
      refine (AllReadyH.cons (by (simp only [List.getElem?_toArray, List.getElem?_cons_succ, List.getElem?_cons_zero]) <;> rfl) (fun K hK => ?_) AllReadyH.nil)
      go_simp
      refine (C1 _ EV.low).mono ?_
      rintro e w5 ⟨C5, n5, h5, rfl, o5, u5⟩
      replace EV := EV.new u5
      simp at EV
      have r1 := EV.cell 0 rfl 1 rfl
      have r2 := EV.cell 0 rfl 2 rfl
      have rf := fun k => EV.free 0 rfl k
      go_wp2_with fail
      refine hK.out _ _ ?_ (fun hHeld => ?_)
      · (try dsimp only)
        first | (exact hkeep) | (exact Nat.zero_le _)
      clear hK K
      try simp only [Act.put, List.setIfInBounds_toArray, List.set_cons_zero, List.set_cons_succ]
      refine take_on (i := 6) (by (simp only [List.getElem?_toArray, List.getElem?_cons_succ, List.getElem?_cons_zero]) <;> rfl) (by kernel_rfl) (by kernel_rfl) (by kernel_rfl) (by intro _ _ _ _ h; exact h) (by rfl) (by assumption) ?_
      apply Exists.intro
      refine ⟨?_, ?_⟩
      · intro W0 hSw
        try dsimp only at hSw
        go_simp
        try (with_reducible rfl)
      try simp only [Act.put, List.setIfInBounds_toArray, List.set_cons_zero, List.set_cons_succ]
      refine wpAnyH_ready (rs := [5]) (by kernel_rfl) (by simp) ?_
      refine (AllReadyH.cons (by (simp only [List.getElem?_toArray, List.getElem?_cons_succ, List.getElem?_cons_zero]) <;> rfl) (fun K hK => ?_) AllReadyH.nil)
      go_simp
      refine (C2 _ EV.low).mono ?_
      rintro e w6 ⟨C6, n6, h6, rfl, o6, u6⟩
      replace EV := EV.new u6
      simp at EV
      have r1 := EV.cell 0 rfl 1 rfl
      have r2 := EV.cell 0 rfl 2 rfl
      have rf := fun k => EV.free 0 rfl k
      go_wp2_with fail
      refine hK.out _ _ ?_ (fun hHeld => ?_)
      · (try dsimp only)
        first | (exact hkeep) | (exact Nat.zero_le _)
      clear hK K
      try simp only [Act.put, List.setIfInBounds_toArray, List.set_cons_zero, List.set_cons_succ]
      refine wpAnyH_ready (rs := [7]) (by kernel_rfl) (by simp) ?_
      refine (AllReadyH.cons (by (simp only [List.getElem?_toArray, List.getElem?_cons_succ, List.getElem?_cons_zero]) <;> rfl) (fun K hK => ?_) AllReadyH.nil)
      go_simp
      refine abs_env (EV.cellset 0 rfl 1 (.slice C5 xs.length n5)) (fun W7 EV => ?_)
      simp only [List.set_cons_zero, List.set_cons_succ] at EV
      have r1 := EV.cell 0 rfl 1 rfl
      have r2 := EV.cell 0 rfl 2 rfl
      have rf := fun k => EV.free 0 rfl k
      refine hK.out _ _ ?_ (fun hHeld => ?_)
      · (try dsimp only)
        first | (exact hkeep) | (exact Nat.zero_le _)
      clear hK K
      try simp only [Act.put, List.setIfInBounds_toArray, List.set_cons_zero, List.set_cons_succ]
      refine take_on (i := 8) (by (simp only [List.getElem?_toArray, List.getElem?_cons_succ, List.getElem?_cons_zero]) <;> rfl) (by kernel_rfl) (by kernel_rfl) (by kernel_rfl) (by intro _ _ _ _ h; exact h) (by rfl) (by assumption) ?_
      apply Exists.intro
      refine ⟨?_, ?_⟩
      · intro W0 hSw
        try dsimp only at hSw
        go_simp
        try (with_reducible rfl)
      try simp only [Act.put, List.setIfInBounds_toArray, List.set_cons_zero, List.set_cons_succ]
      refine wpAnyH_ready (rs := [9]) (by kernel_rfl) (by simp) ?_
      refine (AllReadyH.cons (by (simp only [List.getElem?_toArray, List.getElem?_cons_succ, List.getElem?_cons_zero]) <;> rfl) (fun K hK => ?_) AllReadyH.nil)
      go_simp
      refine abs_env (EV.cellset 0 rfl 2 (.slice C6 rs.length n6)) (fun W9 EV => ?_)
      simp only [List.set_cons_zero, List.set_cons_succ] at EV
      refine hK.out _ _ ?_ (fun hHeld => ?_)
      · (try dsimp only)
        first | (exact hkeep) | (exact Nat.zero_le _)
      clear hK K
      try simp only [Act.put, List.setIfInBounds_toArray, List.set_cons_zero, List.set_cons_succ]
      refine wpAnyH_done (by kernel_rfl) ?_ _
      clear r1 r2 rf C1 C2 E
      go_wp2_with (first
        | (refine wpList_load_mid rfl 37 _ rfl w.heap.size 0 rfl _ _ (EV.range 0 rfl) Tryz.underlying37 rfl (by kernel_rfl) ?_)
        | (refine wpList_store_mid rfl 37 _ _ rfl (w.heap.size + 1) 0 _ rfl rfl (EV.there 1 rfl _ rfl) (by kernel_rfl) (by simp [Value.oneCell']) ?_))
      have EN := EV.setAll 1 rfl [.int .i64 per, .slice C5 xs.length n5, .slice C6 rs.length n6, .int .i64 nx, .int .i64 lf, .int .i64 tm, .int .i64 ls, .int .i64 al] rfl
      simp only [List.set_cons_zero, List.set_cons_succ] at EN
      have d0 := EN.cell 1 rfl 0 rfl
      have d1 := EN.cell 1 rfl 1 rfl
      have d2 := EN.cell 1 rfl 2 rfl
      have d3 := EN.cell 1 rfl 3 rfl
      have d4 := EN.cell 1 rfl 4 rfl
      have d5 := EN.cell 1 rfl 5 rfl
      have d6 := EN.cell 1 rfl 6 rfl
      have d7 := EN.cell 1 rfl 7 rfl
      have EM := (EN.drop 0).drop 0
      simp at EM
      generalize World.setCells _ (w.heap.size + 1) 0 _ = W9 at *
      refine bodyPost_ret (v := .agg #[.int .i64 per, .slice C5 xs.length n5, .slice C6 rs.length n6, .int .i64 nx, .int .i64 lf, .int .i64 tm, .int .i64 ls, .int .i64 al]) ?_ rfl ⟨C5, C6, n5, n6, h5, h6, rfl, o5, o6, EM⟩
      simp [results, Tryz.results52, go_sem, d0, d1, d2, d3, d4, d5, d6, d7]
  · go_simp
    refine hK.out _ _ ?_ (fun hHeld => ?_)
    · (try dsimp only)
      first | (exact hkeep) | (exact Nat.zero_le _)
    clear hK K
    try simp only [Act.put, List.setIfInBounds_toArray, List.set_cons_zero, List.set_cons_succ]
    refine wpAnyH_ready (rs := [1]) (by kernel_rfl) (by simp) ?_
    refine (AllReadyH.cons (by (simp only [List.getElem?_toArray, List.getElem?_cons_succ, List.getElem?_cons_zero]) <;> rfl) (fun K hK => ?_) AllReadyH.nil)
    go_simp
    refine hK.out _ _ ?_ (fun hHeld => ?_)
    · (try dsimp only)
      first | (exact hkeep) | (exact Nat.zero_le _)
    clear hK K
    try simp only [Act.put, List.setIfInBounds_toArray, List.set_cons_zero, List.set_cons_succ]
    refine wpAnyH_ready (rs := [2]) (by kernel_rfl) (by simp) ?_
    refine (AllReadyH.cons (by (simp only [List.getElem?_toArray, List.getElem?_cons_succ, List.getElem?_cons_zero]) <;> rfl) (fun K hK => ?_) AllReadyH.nil)
    go_simp
    refine (C1 _ EV.low).mono ?_
    rintro e w5 ⟨C5, n5, h5, rfl, o5, u5⟩
    replace EV := EV.new u5
    simp at EV
    have r1 := EV.cell 0 rfl 1 rfl
    have r2 := EV.cell 0 rfl 2 rfl
    have rf := fun k => EV.free 0 rfl k
    go_wp2_with fail
    refine hK.out _ _ ?_ (fun hHeld => ?_)
    · (try dsimp only)
      first | (exact hkeep) | (exact Nat.zero_le _)
    clear hK K
    try simp only [Act.put, List.setIfInBounds_toArray, List.set_cons_zero, List.set_cons_succ]
    refine take_on (i := 6) (by (simp only [List.getElem?_toArray, List.getElem?_cons_succ, List.getElem?_cons_zero]) <;> rfl) (by kernel_rfl) (by kernel_rfl) (by kernel_rfl) (by intro _ _ _ _ h; exact h) (by rfl) (by assumption) ?_
    apply Exists.intro
    refine ⟨?_, ?_⟩
    · intro W0 hSw
      try dsimp only at hSw
      go_simp
      try (with_reducible rfl)
    try simp only [Act.put, List.setIfInBounds_toArray, List.set_cons_zero, List.set_cons_succ]
    refine wpAnyH_ready (rs := [5]) (by kernel_rfl) (by simp) ?_
    refine (AllReadyH.cons (by (simp only [List.getElem?_toArray, List.getElem?_cons_succ, List.getElem?_cons_zero]) <;> rfl) (fun K hK => ?_) AllReadyH.nil)
    go_simp
    refine (C2 _ EV.low).mono ?_
    rintro e w6 ⟨C6, n6, h6, rfl, o6, u6⟩
    replace EV := EV.new u6
    simp at EV
    have r1 := EV.cell 0 rfl 1 rfl
    have r2 := EV.cell 0 rfl 2 rfl
    have rf := fun k => EV.free 0 rfl k
    go_wp2_with fail
    refine hK.out _ _ ?_ (fun hHeld => ?_)
    · (try dsimp only)
      first | (exact hkeep) | (exact Nat.zero_le _)
    clear hK K
    try simp only [Act.put, List.setIfInBounds_toArray, List.set_cons_zero, List.set_cons_succ]
    refine wpAnyH_ready (rs := [7]) (by kernel_rfl) (by simp) ?_
    refine (AllReadyH.cons (by (simp only [List.getElem?_toArray, List.getElem?_cons_succ, List.getElem?_cons_zero]) <;> rfl) (fun K hK => ?_) AllReadyH.nil)
    go_simp
    refine abs_env (EV.cellset 0 rfl 1 (.slice C5 xs.length n5)) (fun W7 EV => ?_)
    simp only [List.set_cons_zero, List.set_cons_succ] at EV
    have r1 := EV.cell 0 rfl 1 rfl
    have r2 := EV.cell 0 rfl 2 rfl
    have rf := fun k => EV.free 0 rfl k
    refine hK.out _ _ ?_ (fun hHeld => ?_)
    · (try dsimp only)
      first | (exact hkeep) | (exact Nat.zero_le _)
    clear hK K
    try simp only [Act.put, List.setIfInBounds_toArray, List.set_cons_zero, List.set_cons_succ]
    refine take_on (i := 8) (by (simp only [List.getElem?_toArray, List.getElem?_cons_succ, List.getElem?_cons_zero]) <;> rfl) (by kernel_rfl) (by kernel_rfl) (by kernel_rfl) (by intro _ _ _ _ h; exact h) (by rfl) (by assumption) ?_
    apply Exists.intro
    refine ⟨?_, ?_⟩
    · intro W0 hSw
      try dsimp only at hSw
      go_simp
      try (with_reducible rfl)
    try simp only [Act.put, List.setIfInBounds_toArray, List.set_cons_zero, List.set_cons_succ]
    refine wpAnyH_ready (rs := [9]) (by kernel_rfl) (by simp) ?_
    refine (AllReadyH.cons (by (simp only [List.getElem?_toArray, List.getElem?_cons_succ, List.getElem?_cons_zero]) <;> rfl) (fun K hK => ?_) AllReadyH.nil)
    go_simp
    refine abs_env (EV.cellset 0 rfl 2 (.slice C6 rs.length n6)) (fun W9 EV => ?_)
    simp only [List.set_cons_zero, List.set_cons_succ] at EV
    refine hK.out _ _ ?_ (fun hHeld => ?_)
    · (try dsimp only)
      first | (exact hkeep) | (exact Nat.zero_le _)
    clear hK K
    try simp only [Act.put, List.setIfInBounds_toArray, List.set_cons_zero, List.set_cons_succ]
    refine wpAnyH_done (by kernel_rfl) ?_ _
    clear r1 r2 rf C1 C2 E
    go_wp2_with (first
      | (refine wpList_load_mid rfl 37 _ rfl w.heap.size 0 rfl _ _ (EV.range 0 rfl) Tryz.underlying37 rfl (by kernel_rfl) ?_)
      | (refine wpList_store_mid rfl 37 _ _ rfl (w.heap.size + 1) 0 _ rfl rfl (EV.there 1 rfl _ rfl) (by kernel_rfl) (by simp [Value.oneCell']) ?_))
    have EN := EV.setAll 1 rfl [.int .i64 per, .slice C5 xs.length n5, .slice C6 rs.length n6, .int .i64 nx, .int .i64 lf, .int .i64 tm, .int .i64 ls, .int .i64 al] rfl
    simp only [List.set_cons_zero, List.set_cons_succ] at EN
    have d0 := EN.cell 1 rfl 0 rfl
    have d1 := EN.cell 1 rfl 1 rfl
    have d2 := EN.cell 1 rfl 2 rfl
    have d3 := EN.cell 1 rfl 3 rfl
    have d4 := EN.cell 1 rfl 4 rfl
    have d5 := EN.cell 1 rfl 5 rfl
    have d6 := EN.cell 1 rfl 6 rfl
    have d7 := EN.cell 1 rfl 7 rfl
    have EM := (EN.drop 0).drop 0
    simp at EM
    generalize World.setCells _ (w.heap.size + 1) 0 _ = W9 at *
    refine bodyPost_ret (v := .agg #[.int .i64 per, .slice C5 xs.length n5, .slice C6 rs.length n6, .int .i64 nx, .int .i64 lf, .int .i64 tm, .int .i64 ls, .int .i64 al]) ?_ rfl ⟨C5, C6, n5, n6, h5, h6, rfl, o5, o6, EM⟩
    simp [results, Tryz.results52, go_sem, d0, d1, d2, d3, d4, d5, d6, d7]
end Go.Proofs.YtnfedcaehkcffaaGreat
end
section
/- The walk of vintage.Expire. -/
namespace Go.Sl
open Go Go.RowKit
theorem Ow.behind {α : Type} {k : Kd α} {h : Hp} {b off cap : Nat} {xs : List α} (o : Ow k h (some ⟨b, off, .none⟩) cap xs) (n : Nat) : Ow k h (if cap = n then some ⟨b, off, .none⟩ else some ⟨b, off + n * k.size, .none⟩) (cap - n) (xs.drop n) := by
  refine ⟨by have := o.le; simp; omega, by have := o.max; omega, (by intro e; split at e <;> cases e), fun ad e hc => ?_⟩
  rw [if_neg (by omega)] at e
  cases e
  obtain ⟨b', off', cur, E, e, hb, hsz, hr⟩ := o.row _ rfl (by omega)
  cases e
  refine ⟨b, _, cur, E, rfl, hb, ?_, fun i x hx => ?_⟩
  · rw [Nat.add_assoc, ← Nat.add_mul, show n + (cap - n) = cap by omega]; exact hsz
  · rw [List.getElem?_drop] at hx
    obtain ⟨cs, hK, hcs⟩ := hr (n + i) x hx
    refine ⟨cs, hK, fun j u hu => ?_⟩
    have := hcs j u hu
    rw [Nat.add_mul] at this
    rw [← this]; congr 1; omega
end Go.Sl
namespace Go.Proofs.YtnfedcaehkcffaaGreat
open Go.RowKit Go.Sl Go.Sort
set_option maxHeartbeats 4000000
set_option maxRecDepth 100000
theorem vintExp_calls (b : Nat) (l : List STri) (y : Int) (h : Hp) (w : World) (hs : h.sub w) (hp : PtV h b l) (g : GoodV l) :
    Calls Tryz.prog 110 #[.pointer (some ⟨b, 0, none⟩), .int .i64 y] w fun e w' => ∃ h', e = .returned (.int .i64 (vGone l y)) ∧ PtV h' b (vExp l y) ∧ Upd h h' w w' := by
  have gm := g.mon
  go_enter Tryz.func110, Tryz.ntmps110
  go_wp2
  refine wp_scope_jumps 0 (fun a' w' => ∃ (k : Nat) (h' : Hp) (u2 u3 u6 u7 u8 u9 u10 u11 u12 u13 u14 u15 u16 u17 u18 u19 u20 u21 u22 u23 u24 u25 u26 u27 u28 u29 u30 u31 u32 u33 u34 u35 u36 u37 u38 u39 u40 : Value), a' = { tmps := #[.pointer (some ⟨b, 0, none⟩), .int .i64 y, u2, u3, .int .i64 0, .int .i64 (sumC (l.take k)), u6, u7, u8, u9, u10, u11, u12, u13, u14, u15, u16, u17, u18, u19, u20, u21, u22, u23, u24, u25, u26, u27, u28, u29, u30, u31, u32, u33, u34, u35, u36, u37, u38, u39, u40], defers := [] } ∧ k ≤ l.length ∧ Hid (∀ x ∈ l.take k, x.b < y) ∧ PtV h' b (l.drop k) ∧ Upd h h' w w') (fun a' _ => (sumC l - intOf (a'.tmps.getD 5 undef)).toNat) rfl ?_ ?_
  · obtain ⟨k, hk⟩ : ∃ k : Nat, k = 0 := ⟨0, rfl⟩
    have p : PtV h b (l.drop k) := by rw [hk]; exact hp
    have u := Upd.stay hs (Below.refl _ _)
    have HB : Hid (∀ x ∈ l.take k, x.b < y) := by unfold Hid; rw [hk]; simp
    have hz : sumC (l.take k) = 0 := by rw [hk]; rfl
    go_wp2
    go_step3
    obtain ⟨A', ca', hb', hc', ow', hf'⟩ := p.one u.sub
    have hfz := hf' 0
    rw [List.length_drop] at hc' hb'
    have lmo := ow'.small
    have hs0 := sumC_take_le g.lo k
    by_cases hlt : k < l.length
    · obtain ⟨x, hx⟩ := some_of_lt hlt
      have hx0 : Hid ((l.drop k)[0]? = some x) := by unfold Hid; rw [List.getElem?_drop]; exact hx.out
      obtain ⟨bx, ox, rfl, c1, c2, c3⟩ := ow'.sl.tri (u.sub.del b) hx0
      simp only [Nat.zero_mul, Nat.add_zero] at c1 c2 c3
      obtain ⟨m, hm⟩ : ∃ m, l.length - k = m + 1 := ⟨l.length - k - 1, by omega⟩
      rw [hm] at hc' hb'
      have hTk : Hid (sumC (l.take (k + 1)) = sumC (l.take k) + x.c) := by unfold Hid; rw [take_next hx, sumC_snoc]
      have hxl := g.lo x (List.mem_of_getElem? hx.out)
      have hs1 := sumC_take_le g.lo (k + 1)
      rw [hTk.out] at hs1
      have hcap : m + 1 ≤ ca' := by have := ow'.le; rw [List.length_drop, hm] at this; exact this
      have hcapI : ((m : Int) + 1) ≤ (ca' : Int) := by omega
      by_cases hy : x.b < y
      · have t1 : decide (x.b < y) = true := by simpa using hy
        have HB' : Hid (∀ z ∈ l.take (k + 1), z.b < y) := by
          intro z hz
          rw [take_next hx] at hz
          rcases List.mem_append.1 hz with hz | hz
          · exact HB.out z hz
          · simp at hz; rw [hz]; exact hy
        have ob := ow'.behind 1
        rw [List.drop_drop] at ob
        have hdl : (l.drop (k + 1)).length = m := by rw [List.length_drop]; omega
        generalize hsk : sumC (l.take k) = sk at *
        clear hy
        rcases Nat.decEq ca' 1 with hca | hca
        · rw [if_neg hca] at ob
          go_wp2
          go_step3
          have UF := fun v => (Upd.field (v := v) 0 hb' u.sub (Hp.le_refl _) (Upd.stay (u.sub.del b) (Below.refl _ _))).1
          exact ⟨rfl, ⟨k + 1, _, _, _, _, _, _, _, _, _, _, _, _, _, _, _, _, _, _, _, _, _, _, _, _, _, _, _, _, _, _, _, _, _, _, _, _, _, _, by rw [hTk.out, hz, Int.zero_add], by omega, HB', ⟨_, Hp.put_self, _, _, by rw [hdl]; rfl, by rw [Hp.put_del Hp.del_self]; exact ob⟩, u.trans (UF _)⟩⟩
        · rw [if_pos hca] at ob
          subst hca
          obtain rfl : m = 0 := by omega
          go_wp2
          go_step3
          have UF := fun v => (Upd.field (v := v) 0 hb' u.sub (Hp.le_refl _) (Upd.stay (u.sub.del b) (Below.refl _ _))).1
          exact ⟨rfl, ⟨k + 1, _, _, _, _, _, _, _, _, _, _, _, _, _, _, _, _, _, _, _, _, _, _, _, _, _, _, _, _, _, _, _, _, _, _, _, _, _, _, by rw [hTk.out, hz, Int.zero_add], by omega, HB', ⟨_, Hp.put_self, _, _, by rw [hdl]; rfl, by rw [Hp.put_del Hp.del_self]; exact ob⟩, u.trans (UF _)⟩⟩
      · have t1 : decide (x.b < y) = false := by simpa using hy
        have hd : l.drop k = x :: l.drop (k + 1) := drop_next hx
        have hv := rising_over (y := y) (x := x) (l := l.drop (k + 1)) (by rw [← hd]; exact List.Pairwise.sublist (List.drop_sublist k l) g.rise) hy
        rw [← hd] at hv
        have hsplit := List.take_append_drop k l
        have hg : Hid (vGone l y = sumC (l.take k)) := by
          unfold Hid vGone
          conv => lhs; rw [← hsplit]
          rw [List.filter_append, hv.1, List.append_nil, List.filter_eq_self.2 fun z hz => by simpa [overV] using HB.out z hz]
        have he : Hid (vExp l y = l.drop k) := by
          unfold Hid vExp
          conv => lhs; rw [← hsplit]
          rw [List.filter_append, hv.2, List.filter_eq_nil_iff.2 fun z hz => by simpa [overV] using HB.out z hz]; rfl
        clear hy hv hd hsplit
        go_wp2
        simp only [Exit.jump]
        go_ret
        exact ⟨_, by rw [hg.out, hz]; rfl, by rw [he.out]; exact p, u⟩
    · have hd : l.drop k = [] := List.drop_eq_nil_of_le (by omega)
      have hsplit := List.take_append_drop k l
      rw [hd, List.append_nil] at hsplit
      have hm : l.length - k = 0 := by omega
      rw [hm] at hc' hb'
      have hg : Hid (vGone l y = sumC (l.take k)) := by
        unfold Hid vGone
        conv => lhs; rw [← hsplit]
        rw [List.filter_eq_self.2 fun z hz => by simpa [overV] using HB.out z hz]
      have he : Hid (vExp l y = l.drop k) := by
        unfold Hid vExp
        conv => lhs; rw [← hsplit]
        rw [hd, List.filter_eq_nil_iff.2 fun z hz => by simpa [overV] using HB.out z hz]
      clear hd hsplit
      go_wp2
      simp only [Exit.jump]
      go_ret
      exact ⟨_, by rw [hg.out, hz]; rfl, by rw [he.out]; exact p, u⟩

  · rintro a' w' ⟨k, h', u2, u3, u6, u7, u8, u9, u10, u11, u12, u13, u14, u15, u16, u17, u18, u19, u20, u21, u22, u23, u24, u25, u26, u27, u28, u29, u30, u31, u32, u33, u34, u35, u36, u37, u38, u39, u40, rfl, hk, HB, p, u⟩
    obtain ⟨A', ca', hb', hc', ow', hf'⟩ := p.one u.sub
    have hfz := hf' 0
    rw [List.length_drop] at hc' hb'
    have lmo := ow'.small
    have hs0 := sumC_take_le g.lo k
    by_cases hlt : k < l.length
    · obtain ⟨x, hx⟩ := some_of_lt hlt
      have hx0 : Hid ((l.drop k)[0]? = some x) := by unfold Hid; rw [List.getElem?_drop]; exact hx.out
      obtain ⟨bx, ox, rfl, c1, c2, c3⟩ := ow'.sl.tri (u.sub.del b) hx0
      simp only [Nat.zero_mul, Nat.add_zero] at c1 c2 c3
      obtain ⟨m, hm⟩ : ∃ m, l.length - k = m + 1 := ⟨l.length - k - 1, by omega⟩
      rw [hm] at hc' hb'
      have hTk : Hid (sumC (l.take (k + 1)) = sumC (l.take k) + x.c) := by unfold Hid; rw [take_next hx, sumC_snoc]
      have hxl := g.lo x (List.mem_of_getElem? hx.out)
      have hs1 := sumC_take_le g.lo (k + 1)
      rw [hTk.out] at hs1
      have hcap : m + 1 ≤ ca' := by have := ow'.le; rw [List.length_drop, hm] at this; exact this
      have hcapI : ((m : Int) + 1) ≤ (ca' : Int) := by omega
      by_cases hy : x.b < y
      · have t1 : decide (x.b < y) = true := by simpa using hy
        have HB' : Hid (∀ z ∈ l.take (k + 1), z.b < y) := by
          intro z hz
          rw [take_next hx] at hz
          rcases List.mem_append.1 hz with hz | hz
          · exact HB.out z hz
          · simp at hz; rw [hz]; exact hy
        have ob := ow'.behind 1
        rw [List.drop_drop] at ob
        have hdl : (l.drop (k + 1)).length = m := by rw [List.length_drop]; omega
        generalize hsk : sumC (l.take k) = sk at *
        clear hy
        rcases Nat.decEq ca' 1 with hca | hca
        · rw [if_neg hca] at ob
          go_wp2
          go_step3
          have UF := fun v => (Upd.field (v := v) 0 hb' u.sub (Hp.le_refl _) (Upd.stay (u.sub.del b) (Below.refl _ _))).1
          exact ⟨rfl, ⟨k + 1, _, _, _, _, _, _, _, _, _, _, _, _, _, _, _, _, _, _, _, _, _, _, _, _, _, _, _, _, _, _, _, _, _, _, _, _, _, _, by rw [hTk.out], by omega, HB', ⟨_, Hp.put_self, _, _, by rw [hdl]; rfl, by rw [Hp.put_del Hp.del_self]; exact ob⟩, u.trans (UF _)⟩, by simp [intOf]; omega⟩
        · rw [if_pos hca] at ob
          subst hca
          obtain rfl : m = 0 := by omega
          go_wp2
          go_step3
          have UF := fun v => (Upd.field (v := v) 0 hb' u.sub (Hp.le_refl _) (Upd.stay (u.sub.del b) (Below.refl _ _))).1
          exact ⟨rfl, ⟨k + 1, _, _, _, _, _, _, _, _, _, _, _, _, _, _, _, _, _, _, _, _, _, _, _, _, _, _, _, _, _, _, _, _, _, _, _, _, _, _, by rw [hTk.out], by omega, HB', ⟨_, Hp.put_self, _, _, by rw [hdl]; rfl, by rw [Hp.put_del Hp.del_self]; exact ob⟩, u.trans (UF _)⟩, by simp [intOf]; omega⟩
      · have t1 : decide (x.b < y) = false := by simpa using hy
        have hd : l.drop k = x :: l.drop (k + 1) := drop_next hx
        have hv := rising_over (y := y) (x := x) (l := l.drop (k + 1)) (by rw [← hd]; exact List.Pairwise.sublist (List.drop_sublist k l) g.rise) hy
        rw [← hd] at hv
        have hsplit := List.take_append_drop k l
        have hg : Hid (vGone l y = sumC (l.take k)) := by
          unfold Hid vGone
          conv => lhs; rw [← hsplit]
          rw [List.filter_append, hv.1, List.append_nil, List.filter_eq_self.2 fun z hz => by simpa [overV] using HB.out z hz]
        have he : Hid (vExp l y = l.drop k) := by
          unfold Hid vExp
          conv => lhs; rw [← hsplit]
          rw [List.filter_append, hv.2, List.filter_eq_nil_iff.2 fun z hz => by simpa [overV] using HB.out z hz]; rfl
        clear hy hv hd hsplit
        go_wp2
        simp only [Exit.jump]
        go_ret
        exact ⟨_, by rw [hg.out]; rfl, by rw [he.out]; exact p, u⟩
    · have hd : l.drop k = [] := List.drop_eq_nil_of_le (by omega)
      have hsplit := List.take_append_drop k l
      rw [hd, List.append_nil] at hsplit
      have hm : l.length - k = 0 := by omega
      rw [hm] at hc' hb'
      have hg : Hid (vGone l y = sumC (l.take k)) := by
        unfold Hid vGone
        conv => lhs; rw [← hsplit]
        rw [List.filter_eq_self.2 fun z hz => by simpa [overV] using HB.out z hz]
      have he : Hid (vExp l y = l.drop k) := by
        unfold Hid vExp
        conv => lhs; rw [← hsplit]
        rw [hd, List.filter_eq_nil_iff.2 fun z hz => by simpa [overV] using HB.out z hz]
      clear hd hsplit
      go_wp2
      simp only [Exit.jump]
      go_ret
      exact ⟨_, by rw [hg.out]; rfl, by rw [he.out]; exact p, u⟩

end Go.Proofs.YtnfedcaehkcffaaGreat
end
section
/- The calls of chapter 13 in a body's own memory; law13.wakes. -/
namespace Go.Proofs.YtnfedcaehkcffaaGreat
open Go.RowKit Go.Sl
set_option maxHeartbeats 1000000
set_option maxRecDepth 100000
structure Vnt (h : Hp) (b : Nat) (l : List STri) : Prop where
  pt : PtV h b l
  good : GoodV l
section
variable {w0 w : World} {L : List Hp} {h : Hp} {b : Nat} {l : List STri}
theorem Vnt.new (E : Env w0 w L) : Calls Tryz.prog 24 #[] w fun e w' => ∃ h b, e = .returned (.pointer (some ⟨b, 0, none⟩)) ∧ Vnt h b [] ∧ Env w0 w' (L ++ [h]) :=
  (vintNew_calls w).mono fun _ _ ⟨h, b, he, hp, u⟩ => ⟨h, b, he, ⟨hp, .nil⟩, E.new u⟩
theorem Vnt.clone (S : Vnt h b l) (E : Env w0 w L) (i : Nat) (hi : L[i]? = some h) :
    Calls Tryz.prog 109 #[.pointer (some ⟨b, 0, none⟩)] w fun e w' => ∃ h' b', e = .returned (.pointer (some ⟨b', 0, none⟩)) ∧ Vnt h' b' l ∧ Env w0 w' (L ++ [h']) :=
  (vintClone_calls b l h w (E.sub i hi) S.pt (by have := S.good.len; omega)).mono fun _ _ ⟨h', b', he, hp', u⟩ => ⟨h', b', he, ⟨hp', S.good⟩, E.new u⟩
theorem Vnt.rows (S : Vnt h b l) (E : Env w0 w L) (i : Nat) (hi : L[i]? = some h) (n : Nat) (hn : l.length = n) :
    Calls Tryz.prog 43 #[.pointer (some ⟨b, 0, none⟩)] w fun e w' => ∃ C cap h', e = .returned (.slice C n cap) ∧ Ow kTri h' C cap l ∧ Env w0 w' (L ++ [h']) := by
  subst hn
  exact (vintRows_calls b l h w (E.sub i hi) S.pt (by have := S.good.len; omega)).mono fun _ _ ⟨C, cap, h', he, ho, u⟩ => ⟨C, cap, h', he, ho, E.new u⟩
theorem Vnt.left (S : Vnt h b l) (E : Env w0 w L) (i : Nat) (hi : L[i]? = some h) {v : Int} (hv : sumC l = v) :
    Calls Tryz.prog 19 #[.pointer (some ⟨b, 0, none⟩)] w fun e w' => e = .returned (.int .i64 v) ∧ Env w0 w' L := by
  subst hv
  exact (vintLeft_calls b l h w (E.sub i hi) S.pt (by have := S.good.len; omega) (fun x hx => by have := S.good.lo x hx; have := le_sumC S.good.lo hx; have := S.good.mon; omega)).mono fun _ _ ⟨he, hb⟩ => ⟨he, E.below hb⟩
theorem Vnt.add (S : Vnt h b l) (E : Env w0 w L) (i : Nat) (hi : L[i]? = some h) (o x n : Int) {q : Int} {ys : List STri} (hE : vAddE l o x n = q ∧ vAdd l o x n = ys) :
    Calls Tryz.prog 83 #[.pointer (some ⟨b, 0, none⟩), .int .i64 o, .int .i64 x, .int .i64 n] w fun e w' => ∃ h', e = .returned (.int .i64 q) ∧ Vnt h' b ys ∧ Env w0 w' (L.set i h') := by
  obtain ⟨h1, h2⟩ := hE
  subst h1 h2
  exact (vintAdd_calls b l o x n h w (E.sub i hi) S.pt S.good).mono fun _ _ ⟨h', he, hp', u⟩ => ⟨h', he, ⟨hp', S.good.add o x n⟩, E.upd i hi u⟩
theorem Vnt.exp (S : Vnt h b l) (E : Env w0 w L) (i : Nat) (hi : L[i]? = some h) (y : Int) {q : Int} {ys : List STri} (hE : vGone l y = q ∧ vExp l y = ys) :
    Calls Tryz.prog 110 #[.pointer (some ⟨b, 0, none⟩), .int .i64 y] w fun e w' => ∃ h', e = .returned (.int .i64 q) ∧ Vnt h' b ys ∧ Env w0 w' (L.set i h') := by
  obtain ⟨h1, h2⟩ := hE
  subst h1 h2
  exact (vintExp_calls b l y h w (E.sub i hi) S.pt S.good).mono fun _ _ ⟨h', he, hp', u⟩ => ⟨h', he, ⟨hp', S.good.exp y⟩, E.upd i hi u⟩
theorem Vnt.take (S : Vnt h b l) (E : Env w0 w L) (i : Nat) (hi : L[i]? = some h) {U : Option Addr} {cu : Nat} {us : List Int} {k : Hp} (ks : k.sub w) (su : Sl kInt k U cu us) (hz : ∀ u ∈ us, I64 u) (n : Nat) (hn : us.length = n) {q : Int} {ys : List STri} (hE : vTakeE l us = q ∧ vTake l us = ys) :
    Calls Tryz.prog 114 #[.pointer (some ⟨b, 0, none⟩), .slice U n cu] w fun e w' => ∃ h', e = .returned (.int .i64 q) ∧ Vnt h' b ys ∧ Env w0 w' (L.set i h') := by
  obtain ⟨h1, h2⟩ := hE
  subst h1 h2 hn
  exact (vintTake_calls b l h w (E.sub i hi) S.pt S.good U cu us k ks su hz).mono fun _ _ ⟨h', he, hp', u⟩ => ⟨h', he, ⟨hp', S.good.take us⟩, E.upd i hi u⟩
end
end Go.Proofs.YtnfedcaehkcffaaGreat
end
section
/- The walk of current.Tax: what has no tax. -/
namespace Go.Proofs.YtnfedcaehkcffaaGreat
open Go.RowKit Go.Sl
set_option maxHeartbeats 4000000
set_option maxRecDepth 100000
def noRes : Value := .agg #[.int .i64 0, .int .i64 0, .int .i64 0, .int .i64 0, .int .i64 0, .int .i64 0, .slice none 0 0]
theorem curTax_arg (b : Nat) (l : List STri) (bk pm mv most life year r : Int) (w : World) (ha : curArg most life year r = false) :
    Calls Tryz.prog 55 #[.pointer (some ⟨b, 0, none⟩), .int .i64 bk, .int .i64 pm, .int .i64 mv, .int .i64 most, .int .i64 life, .int .i64 year, .int .i64 r] w fun e w' => e = .returned (.tuple #[noRes, .pointer none, .int .i64 1]) ∧ Below w.heap.size w w' := by
  have R1 := fun W : World => rateRight_calls most W
  have R2 := fun W : World => rateRight_calls r W
  have R3 := fun W : World => curRight_calls life W
  have R4 := fun W : World => curRight_calls year W
  have HN : Hid (noRes = .agg #[.int .i64 0, .int .i64 0, .int .i64 0, .int .i64 0, .int .i64 0, .int .i64 0, .slice none 0 0]) := rfl
  unfold curArg at ha
  generalize rightRate most = q1 at *
  generalize rightRate r = q2 at *
  generalize decide (0 ≤ life ∧ life ≤ 99) = q3 at *
  generalize decide (0 ≤ year ∧ year ≤ 99) = q4 at *
  have E0 := (Env.start w).alloc (.cells #[.int .i64 0, .int .i64 0, .int .i64 0, .int .i64 0, .int .i64 0, .int .i64 0, .slice none 0 0] 39)
  simp at E0
  have z := fun k v (h : [Value.int .i64 0, .int .i64 0, .int .i64 0, .int .i64 0, .int .i64 0, .int .i64 0, .slice none 0 0][k]? = some v) => E0.cell 0 rfl k h
  have z0 := z 0 _ rfl
  have z1 := z 1 _ rfl
  have z2 := z 2 _ rfl
  have z3 := z 3 _ rfl
  have z4 := z 4 _ rfl
  have z5 := z 5 _ rfl
  have z6 := z 6 _ rfl
  have zf := fun k => E0.free 0 rfl k
  clear z
  rcases (show q1 = false ∨ (q1 = true ∧ q2 = false) ∨ (q1 = true ∧ q2 = true ∧ q3 = false) ∨ (q1 = true ∧ q2 = true ∧ q3 = true ∧ q4 = false) by cases q1 <;> cases q2 <;> cases q3 <;> cases q4 <;> simp_all) with rfl | ⟨rfl, rfl⟩ | ⟨rfl, rfl, rfl⟩ | ⟨rfl, rfl, rfl, rfl⟩
  · go_enter Tryz.func55, Tryz.ntmps55
    go_wp2_with fail
    refine (R1 _).mono ?_
    rintro e w' ⟨rfl, rfl⟩
    go_wp2
    exact bodyPost_ret (v := .tuple #[.agg #[.int .i64 0, .int .i64 0, .int .i64 0, .int .i64 0, .int .i64 0, .int .i64 0, .slice none 0 0], .pointer none, .int .i64 1]) (by simp [results, Tryz.results55, go_sem, z0, z1, z2, z3, z4, z5, z6]) rfl ⟨by rw [HN.out], E0.low⟩
  · go_enter Tryz.func55, Tryz.ntmps55
    go_wp2_with fail
    refine (R1 _).mono ?_
    rintro e w' ⟨rfl, rfl⟩
    go_wp2_with fail
    refine (R2 _).mono ?_
    rintro e w' ⟨rfl, rfl⟩
    go_wp2
    exact bodyPost_ret (v := .tuple #[.agg #[.int .i64 0, .int .i64 0, .int .i64 0, .int .i64 0, .int .i64 0, .int .i64 0, .slice none 0 0], .pointer none, .int .i64 1]) (by simp [results, Tryz.results55, go_sem, z0, z1, z2, z3, z4, z5, z6]) rfl ⟨by rw [HN.out], E0.low⟩
  · go_enter Tryz.func55, Tryz.ntmps55
    go_wp2_with fail
    refine (R1 _).mono ?_
    rintro e w' ⟨rfl, rfl⟩
    go_wp2_with fail
    refine (R2 _).mono ?_
    rintro e w' ⟨rfl, rfl⟩
    go_wp2_with fail
    refine (R3 _).mono ?_
    rintro e w' ⟨rfl, rfl⟩
    go_wp2
    exact bodyPost_ret (v := .tuple #[.agg #[.int .i64 0, .int .i64 0, .int .i64 0, .int .i64 0, .int .i64 0, .int .i64 0, .slice none 0 0], .pointer none, .int .i64 1]) (by simp [results, Tryz.results55, go_sem, z0, z1, z2, z3, z4, z5, z6]) rfl ⟨by rw [HN.out], E0.low⟩
  · go_enter Tryz.func55, Tryz.ntmps55
    go_wp2_with fail
    refine (R1 _).mono ?_
    rintro e w' ⟨rfl, rfl⟩
    go_wp2_with fail
    refine (R2 _).mono ?_
    rintro e w' ⟨rfl, rfl⟩
    go_wp2_with fail
    refine (R3 _).mono ?_
    rintro e w' ⟨rfl, rfl⟩
    go_wp2_with fail
    refine (R4 _).mono ?_
    rintro e w' ⟨rfl, rfl⟩
    go_wp2
    exact bodyPost_ret (v := .tuple #[.agg #[.int .i64 0, .int .i64 0, .int .i64 0, .int .i64 0, .int .i64 0, .int .i64 0, .slice none 0 0], .pointer none, .int .i64 1]) (by simp [results, Tryz.results55, go_sem, z0, z1, z2, z3, z4, z5, z6]) rfl ⟨by rw [HN.out], E0.low⟩
end Go.Proofs.YtnfedcaehkcffaaGreat
end
section
/- The walk of current.Tax: an income that is too great; none; a loss; a profit. -/
namespace Go.Proofs.YtnfedcaehkcffaaGreat
open Go.RowKit Go.Sl
set_option maxHeartbeats 1000000
set_option maxRecDepth 100000
def CurOk (l : List STri) (inc most life year r : Int) (w : World) (e : Ending) (w' : World) : Prop :=
  ∃ h' b' hv V cap, e = .returned (.tuple #[.agg #[.int .i64 inc, .int .i64 (vGone l year), .int .i64 (curVec l inc most year).sum, .int .i64 (curNew inc), .int .i64 (curTaxable l inc most year), .int .i64 (ofVal (curTaxable l inc most year) r), .slice V (curVec l inc most year).length cap], .pointer (some ⟨b', 0, none⟩), .int .i64 0]) ∧
    Vnt h' b' (curNext l inc most life year) ∧ Ow kInt hv V cap (curVec l inc most year) ∧ Env w w' [h', hv]
theorem curTax_over (b : Nat) (bk pm mv most life year r : Int) (w : World) (ha : curArg most life year r = true) (hi : incOk bk pm mv = false) :
    Calls Tryz.prog 55 #[.pointer (some ⟨b, 0, none⟩), .int .i64 bk, .int .i64 pm, .int .i64 mv, .int .i64 most, .int .i64 life, .int .i64 year, .int .i64 r] w fun e w' => e = .returned (.tuple #[noRes, .pointer none, .int .i64 6]) ∧ Below w.heap.size w w' := by
  have HN : Hid (noRes = .agg #[.int .i64 0, .int .i64 0, .int .i64 0, .int .i64 0, .int .i64 0, .int .i64 0, .slice none 0 0]) := rfl
  have HI := Lib.hid hi
  clear hi
  have E0 := (Env.start w).alloc (.cells #[.int .i64 0, .int .i64 0, .int .i64 0, .int .i64 0, .int .i64 0, .int .i64 0, .slice none 0 0] 39)
  simp at E0
  have R1 := fun W : World => rateRight_calls most W
  have R2 := fun W : World => rateRight_calls r W
  have R3 := fun W : World => curRight_calls life W
  have R4 := fun W : World => curRight_calls year W
  have hq : rightRate most = true ∧ rightRate r = true ∧ decide (0 ≤ life ∧ life ≤ 99) = true ∧ decide (0 ≤ year ∧ year ≤ 99) = true := by unfold curArg at ha; simpa using ha
  rw [hq.1] at R1
  rw [hq.2.1] at R2
  rw [hq.2.2.1] at R3
  rw [hq.2.2.2] at R4
  have hlb : 0 ≤ life ∧ life ≤ 99 := by simpa using hq.2.2.1
  have hyb : 0 ≤ year ∧ year ≤ 99 := by simpa using hq.2.2.2
  clear hq
  have IC := fun W : World => income_calls bk pm mv W
  go_enter Tryz.func55, Tryz.ntmps55
  go_wp2_with fail
  refine (R1 _).mono ?_
  rintro e w' ⟨rfl, rfl⟩
  go_wp2_with fail
  refine (R2 _).mono ?_
  rintro e w' ⟨rfl, rfl⟩
  go_wp2_with fail
  refine (R3 _).mono ?_
  rintro e w' ⟨rfl, rfl⟩
  go_wp2_with fail
  refine (R4 _).mono ?_
  rintro e w' ⟨rfl, rfl⟩
  go_wp2_with fail
  refine (IC _).mono ?_
  rw [HI.out]
  rintro e w2 ⟨rfl, B2⟩
  have E2 := E0.below B2
  have z := fun k v (h : [Value.int .i64 0, .int .i64 0, .int .i64 0, .int .i64 0, .int .i64 0, .int .i64 0, .slice none 0 0][k]? = some v) => E2.cell 0 rfl k h
  have z0 := z 0 _ rfl
  have z1 := z 1 _ rfl
  have z2 := z 2 _ rfl
  have z3 := z 3 _ rfl
  have z4 := z 4 _ rfl
  have z5 := z 5 _ rfl
  have z6 := z 6 _ rfl
  have zf := fun k => E2.free 0 rfl k
  clear z
  go_wp2
  exact bodyPost_ret (v := .tuple #[.agg #[.int .i64 0, .int .i64 0, .int .i64 0, .int .i64 0, .int .i64 0, .int .i64 0, .slice none 0 0], .pointer none, .int .i64 6]) (by simp [results, Tryz.results55, go_sem, z0, z1, z2, z3, z4, z5, z6]) rfl ⟨by rw [HN.out], (((((((E2.cellset 0 rfl 0 _).cellset 0 rfl 1 _).cellset 0 rfl 2 _).cellset 0 rfl 3 _).cellset 0 rfl 4 _).cellset 0 rfl 5 _).cellset 0 rfl 6 _).low⟩
theorem curTax_zero (h : Hp) (b : Nat) (l : List STri) (bk pm mv most life year r : Int) (w : World) (hs : h.sub w) (S : Vnt h b l) (ha : curArg most life year r = true) (hi : incOk bk pm mv = true) (h0 : incV bk pm mv = 0) :
    Calls Tryz.prog 55 #[.pointer (some ⟨b, 0, none⟩), .int .i64 bk, .int .i64 pm, .int .i64 mv, .int .i64 most, .int .i64 life, .int .i64 year, .int .i64 r] w (CurOk l 0 most life year r w) := by
  have HI := Lib.hid hi
  have H0 := Lib.hid h0
  clear hi h0
  have hV : curVec l 0 most year = [] := by unfold curVec; rw [if_neg (by omega)]
  have HP : ∀ (W : World) (h' : Hp) (b' : Nat), Vnt h' b' (vExp l year) → Env w W [h'] → CurOk l 0 most life year r w (.returned (.tuple #[.agg #[.int .i64 0, .int .i64 (vGone l year), .int .i64 0, .int .i64 0, .int .i64 0, .int .i64 (ofVal 0 r), .slice none 0 0], .pointer (some ⟨b', 0, none⟩), .int .i64 0])) W := fun W h' b' S' E' => by
    refine ⟨h', b', Hp.none, none, 0, ?_, ?_, ?_, E'.new (Upd.of_below (Below.refl _ _))⟩
    · have ht : curTaxable l 0 most year = 0 := by unfold curTaxable; rw [hV]; rfl
      rw [hV, ht]; rfl
    · unfold curNext; rw [if_neg (by omega), if_neg (by omega)]; exact S'
    · rw [hV]; exact Ow.none _ _
  have E0 := (Env.start w).alloc (.cells #[.int .i64 0, .int .i64 0, .int .i64 0, .int .i64 0, .int .i64 0, .int .i64 0, .slice none 0 0] 39)
  simp at E0
  have R1 := fun W : World => rateRight_calls most W
  have R2 := fun W : World => rateRight_calls r W
  have R3 := fun W : World => curRight_calls life W
  have R4 := fun W : World => curRight_calls year W
  have hq : rightRate most = true ∧ rightRate r = true ∧ decide (0 ≤ life ∧ life ≤ 99) = true ∧ decide (0 ≤ year ∧ year ≤ 99) = true := by unfold curArg at ha; simpa using ha
  rw [hq.1] at R1
  rw [hq.2.1] at R2
  rw [hq.2.2.1] at R3
  rw [hq.2.2.2] at R4
  have hlb : 0 ≤ life ∧ life ≤ 99 := by simpa using hq.2.2.1
  have hyb : 0 ≤ year ∧ year ≤ 99 := by simpa using hq.2.2.2
  clear hq
  have IC := fun W : World => income_calls bk pm mv W
  go_enter Tryz.func55, Tryz.ntmps55
  go_wp2_with fail
  refine (R1 _).mono ?_
  rintro e w' ⟨rfl, rfl⟩
  go_wp2_with fail
  refine (R2 _).mono ?_
  rintro e w' ⟨rfl, rfl⟩
  go_wp2_with fail
  refine (R3 _).mono ?_
  rintro e w' ⟨rfl, rfl⟩
  go_wp2_with fail
  refine (R4 _).mono ?_
  rintro e w' ⟨rfl, rfl⟩
  go_wp2_with fail
  refine (IC _).mono ?_
  rw [HI.out, H0.out]
  rintro e w2 ⟨rfl, B2⟩
  have E2 := E0.below B2
  go_wp2_with fail
  refine (vintClone_calls b l h w2 (hs.of_below E2.low) S.pt (by have := S.good.len; omega)).mono ?_
  rintro e w3 ⟨h3, b3, rfl, p3, u3⟩
  have E3 := E2.new u3
  simp at E3
  have S3 : Vnt h3 b3 l := ⟨p3, S.good⟩
  go_wp2_with fail
  refine (Vnt.exp S3 E3 1 rfl year ⟨rfl, rfl⟩).mono ?_
  rintro e w4 ⟨h4, rfl, S4, E4⟩
  simp at E4
  have OC := fun W : World => of_calls 0 r W
  generalize vGone l year = vg at *
  generalize ofVal 0 r = ov at *
  generalize ofOk 0 r = ob at *
  go_upto_region 8 with fail
  replace E4 := E4.alloc (.cells #[.int .i64 0, .int .i64 vg, .int .i64 0, .int .i64 0, .int .i64 0, .int .i64 0, .slice none 0 0] 39)
  simp at E4
  obtain ⟨W, hW⟩ : ∃ W : World, W = w4.alloc (.cells #[.int .i64 0, .int .i64 vg, .int .i64 0, .int .i64 0, .int .i64 0, .int .i64 0, .slice none 0 0] 39) := ⟨_, rfl⟩
  rw [← hW] at E4
  rw [← hW]
  clear hW
  have y0 := E4.cell 2 rfl 0 rfl
  have y1 := E4.cell 2 rfl 1 rfl
  have y2 := E4.cell 2 rfl 2 rfl
  have y3 := E4.cell 2 rfl 3 rfl
  have y4 := E4.cell 2 rfl 4 rfl
  have y5 := E4.cell 2 rfl 5 rfl
  have y6 := E4.cell 2 rfl 6 rfl
  generalize w4.heap.size = bB at *
  have yf := fun k => E4.free 2 rfl k
  have z := fun k v (h : [Value.int .i64 0, .int .i64 0, .int .i64 0, .int .i64 0, .int .i64 0, .int .i64 0, .slice none 0 0][k]? = some v) => E4.cell 0 rfl k h
  have z0 := z 0 _ rfl
  have z1 := z 1 _ rfl
  have z2 := z 2 _ rfl
  have z3 := z 3 _ rfl
  have z4 := z 4 _ rfl
  have z5 := z 5 _ rfl
  have z6 := z 6 _ rfl
  have zf := fun k => E4.free 0 rfl k
  clear z
  go_wp2_with fail
  refine (OC _).mono ?_
  rintro e w' ⟨rfl, rfl⟩
  clear z0 z1 z2 z3 z4 z5 z6 zf
  go_upto_region 19 with fail
  have F0 := E4.cellset 2 rfl 4 (.int .i64 0)
  simp only [List.set_cons_zero, List.set_cons_succ] at F0
  have F1 := F0.cellset 2 rfl 5 (.int .i64 ov)
  simp only [List.set_cons_zero, List.set_cons_succ] at F1
  obtain ⟨V, hV9⟩ : ∃ V : World, V = (W.setCell ⟨bB, 4, none⟩ (.int .i64 0)).setCell ⟨bB, 5, none⟩ (.int .i64 ov) := ⟨_, rfl⟩
  rw [← hV9] at F1
  rw [← hV9]
  clear hV9 F0 E4 y0 y1 y2 y3 y4 y5 y6 yf
  have y0 := F1.cell 2 rfl 0 rfl
  have y1 := F1.cell 2 rfl 1 rfl
  have y2 := F1.cell 2 rfl 2 rfl
  have y3 := F1.cell 2 rfl 3 rfl
  have y4 := F1.cell 2 rfl 4 rfl
  have y5 := F1.cell 2 rfl 5 rfl
  have y6 := F1.cell 2 rfl 6 rfl
  have z0 := F1.cell 0 rfl 0 rfl
  have z1 := F1.cell 0 rfl 1 rfl
  have z2 := F1.cell 0 rfl 2 rfl
  have z3 := F1.cell 0 rfl 3 rfl
  have z4 := F1.cell 0 rfl 4 rfl
  have z5 := F1.cell 0 rfl 5 rfl
  have z6 := F1.cell 0 rfl 6 rfl
  have zf := fun k => F1.free 0 rfl k
  trace "R19"
  go_wp2
  have G0 := F1.cellset 0 rfl 0 (.int .i64 0)
  simp only [List.set_cons_zero] at G0
  have G1 := G0.cellset 0 rfl 1 (.int .i64 vg)
  simp only [List.set_cons_zero, List.set_cons_succ] at G1
  have G2 := G1.cellset 0 rfl 2 (.int .i64 0)
  simp only [List.set_cons_zero, List.set_cons_succ] at G2
  have G3 := G2.cellset 0 rfl 3 (.int .i64 0)
  simp only [List.set_cons_zero, List.set_cons_succ] at G3
  have G4 := G3.cellset 0 rfl 4 (.int .i64 0)
  simp only [List.set_cons_zero, List.set_cons_succ] at G4
  have G5 := G4.cellset 0 rfl 5 (.int .i64 ov)
  simp only [List.set_cons_zero, List.set_cons_succ] at G5
  have G6 := G5.cellset 0 rfl 6 (.slice none 0 0)
  simp only [List.set_cons_zero, List.set_cons_succ] at G6
  have EF := (G6.drop 2).drop 0
  simp at EF
  exact bodyPost_ret (v := .tuple #[.agg #[.int .i64 0, .int .i64 vg, .int .i64 0, .int .i64 0, .int .i64 0, .int .i64 ov, .slice none 0 0], .pointer (some ⟨b3, 0, none⟩), .int .i64 0]) (by simp [results, Tryz.results55, go_sem, z0, z1, z2, z3, z4, z5, z6]) rfl (HP _ h4 b3 S4 EF)
end Go.Proofs.YtnfedcaehkcffaaGreat
end
