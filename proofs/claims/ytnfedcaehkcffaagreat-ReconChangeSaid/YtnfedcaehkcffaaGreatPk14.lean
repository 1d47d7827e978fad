/- Walks and plain facts that the laws of this seat share, part 14: contracts of functions, each said at its theorem. -/
import Derived.Test.YtnfedcaehkcffaaGreatPk13
set_option linter.all false
section
/- The walk of Provision.changes. -/
namespace Go.Sl
open Go Go.RowKit
def wbOf (w : SWay) : STri := ⟨w.cls, w.yr, 0⟩
def oldX (xs : List STri) (rs : List Int) (w : SWay) (n : Int) : Int :=
  match xs.findIdx? (isB w.cls w.yr) with
  | some k => rs[k]?.getD n
  | none => n
def nowOf (t : List SRate) (j : ByteArray) (per : Int) (xs rows : List STri) : List Int := ratL t j ((fwd xs rows).map wbOf) per
def wasOf (t : List SRate) (j : ByteArray) (per : Int) (xs : List STri) (rs : List Int) (rows : List STri) : List Int := List.zipWith (oldX xs rs) (fwd xs rows) (nowOf t j per xs rows)
def chE (t : List SRate) (j : ByteArray) (per : Int) (xs : List STri) (rs : List Int) (rows : List STri) : Int :=
  if ratE t j ((fwd xs rows).map wbOf) per ≠ 0 then ratE t j ((fwd xs rows).map wbOf) per else remE (fwd xs rows) (wasOf t j per xs rs rows) (nowOf t j per xs rows)
theorem oldX_cases (xs : List STri) (rs : List Int) (w : SWay) (n : Int) (hl : rs.length = xs.length) :
    (idx (isB w.cls w.yr) xs = -1 ∧ oldX xs rs w n = n) ∨ ∃ (k : Nat) (r : Int), idx (isB w.cls w.yr) xs = k ∧ rs[k]? = some r ∧ oldX xs rs w n = r := by
  unfold oldX
  cases h : xs.findIdx? (isB w.cls w.yr) with
  | none => exact .inl ⟨idx_miss (fun y hy => by
      have := List.findIdx?_eq_none_iff.1 h y hy
      simpa using this), rfl⟩
  | some k =>
    obtain ⟨hk, h1, h2⟩ := List.findIdx?_eq_some_iff_getElem.1 h
    have hk2 : k < rs.length := by omega
    refine .inr ⟨k, rs[k], idx_hit (fun y hy => ?_) (List.getElem?_eq_getElem hk) h1, List.getElem?_eq_getElem hk2, by simp [List.getElem?_eq_getElem hk2]⟩
    obtain ⟨i, hi⟩ := List.mem_iff_getElem?.1 hy
    have hik : i < k := by
      have := (List.getElem?_eq_some_iff.1 hi).1
      rw [List.length_take] at this; omega
    rw [List.getElem?_take, if_pos hik] at hi
    have h3 := h2 i hik
    rw [(List.getElem?_eq_some_iff.1 hi).2] at h3
    simpa using h3
theorem zip_set (f : SWay → Int → Int) : ∀ (ws : List SWay) (nw : List Int) (i : Nat) (x : SWay) (n : Int), ws[i]? = some x → nw[i]? = some n →
    (List.zipWith f (ws.take i) (nw.take i) ++ nw.drop i).set i (f x n) = List.zipWith f (ws.take (i + 1)) (nw.take (i + 1)) ++ nw.drop (i + 1)
  | [], _, _, _, _, h, _ => by simp at h
  | _ :: _, [], _, _, _, _, h => by simp at h
  | w :: ws, m :: nw, 0, x, n, h1, h2 => by simp at h1 h2; subst h1 h2; simp
  | w :: ws, m :: nw, i + 1, x, n, h1, h2 => by
    have ih := zip_set f ws nw i x n (by simpa using h1) (by simpa using h2)
    simpa using ih
theorem zip_at (f : SWay → Int → Int) : ∀ (ws : List SWay) (nw : List Int) (i : Nat) (x : SWay) (n : Int), ws[i]? = some x → nw[i]? = some n →
    (List.zipWith f (ws.take i) (nw.take i) ++ nw.drop i)[i]? = some n
  | [], _, _, _, _, h, _ => by simp at h
  | _ :: _, [], _, _, _, _, h => by simp at h
  | w :: ws, m :: nw, 0, x, n, h1, h2 => by simp at h2; subst h2; simp
  | w :: ws, m :: nw, i + 1, x, n, h1, h2 => by
    have ih := zip_at f ws nw i x n (by simpa using h1) (by simpa using h2)
    simpa using ih
theorem set_self {α : Type} {l : List α} {i : Nat} {x : α} (h : l[i]? = some x) : l.set i x = l := by
  obtain ⟨h1, h2⟩ := List.getElem?_eq_some_iff.1 h
  subst h2
  exact List.set_getElem_self h1
end Go.Sl
namespace Go.Proofs.YtnfedcaehkcffaaGreat
open Go.RowKit Go.Sl
set_option maxHeartbeats 2000000
set_option maxRecDepth 100000
set_option linter.unusedSimpArgs false
theorem chgSame_calls (x : STri) (b : Nat) (c y : Int) (W : World) (h1 : W.cell? ⟨b, 0, none⟩ = some (.int .i64 c)) (h2 : W.cell? ⟨b, 1, none⟩ = some (.int .i64 y)) :
    Calls Tryz.prog 120 (#[.agg #[.int .i64 x.a, .int .i64 x.b, .int .i64 x.c]] ++ #[.pointer (some ⟨b, 0, none⟩)]) W fun e W' => e = .returned (.bool (isB c y x)) ∧ Below W.heap.size W W' := by
  have h1a := fun o => (cell_alloc (o := o) (World.block_lt_of_cell? _ _ h1)).trans h1
  have h2a := fun o => (cell_alloc (o := o) (World.block_lt_of_cell? _ _ h2)).trans h2
  have HI : isB c y x = decide (x.a = c ∧ x.b = y) := rfl
  generalize isB c y x = r at *
  by_cases h3 : x.a = c
  · have t1 : (x.a == c) = true := by simpa using h3
    by_cases h4 : x.b = y
    · have t2 : (x.b == y) = true := by simpa using h4
      have hr : Hid (r = true) := by unfold Hid; rw [HI]; simp [h3, h4]
      clear HI h3 h4
      go_enter Tryz.func120, Tryz.ntmps120
      go_wp2
      go_ret
      exact ⟨by rw [hr.out]; rfl, (by repeat (first | exact Below.refl _ _ | apply Below.drew | refine Below.alloc ?_ (by simp) _))⟩
    · have t2 : (x.b == y) = false := by simpa using h4
      have hr : Hid (r = false) := by unfold Hid; rw [HI]; simp [h4]
      clear HI h3 h4
      go_enter Tryz.func120, Tryz.ntmps120
      go_wp2
      go_ret
      exact ⟨by rw [hr.out]; rfl, (by repeat (first | exact Below.refl _ _ | apply Below.drew | refine Below.alloc ?_ (by simp) _))⟩
  · have t1 : (x.a == c) = false := by simpa using h3
    have hr : Hid (r = false) := by unfold Hid; rw [HI]; simp [h3]
    clear HI h3
    go_enter Tryz.func120, Tryz.ntmps120
    go_wp2
    go_ret
    exact ⟨by rw [hr.out]; rfl, (by repeat (first | exact Below.refl _ _ | apply Below.drew | refine Below.alloc ?_ (by simp) _))⟩
def ChAns (t : List SRate) (j : ByteArray) (per : Int) (xs : List STri) (rs : List Int) (rows : List STri) (A B R : Option Addr) (ca cb cr bp : Nat) (v2 v3 v4 v5 v6 v7 v8 v9 v12 v13 v14 v15 v16 v17 v19 v20 v21 v22 v23 v24 v25 v26 v27 v28 v29 v30 v31 v36 v37 v38 v39 v40 : Value) (w0 : World) (L : List Hp) (e : Ending) (w' : World) : Prop :=
  (chE t j per xs rs rows ≠ 0 ∧ e = .returned (.int .i64 (chE t j per xs rs rows)) ∧ Env w0 w' L) ∨
  (chE t j per xs rs rows = 0 ∧ e = .returned (.int .i64 0) ∧ ∃ C cw hw N cn hn, Ow kWay hw C cw (fwd xs rows) ∧ Ow kInt hn N cn (nowOf t j per xs rows) ∧ Env w0 w' (Hp.box bp [.string j, .int .i64 per, v2, v3, v4, v5, v6, v7, v8, v9, .slice A xs.length ca, .slice B rs.length cb, v12, v13, v14, v15, v16, v17, .slice R rows.length cr, v19, v20, v21, v22, v23, v24, v25, v26, v27, v28, v29, v30, v31, .slice C (fwd xs rows).length cw, .slice N (nowOf t j per xs rows).length cn, .int .i64 (remMo (fwd xs rows) (wasOf t j per xs rs rows) (nowOf t j per xs rows)), .int .i64 (remRa (fwd xs rows) (wasOf t j per xs rs rows) (nowOf t j per xs rows)), v36, v37, v38, v39, v40] 44 :: hn :: hw :: L))
theorem ChAns.no {t : List SRate} {j : ByteArray} {per : Int} {xs : List STri} {rs : List Int} {rows : List STri} {A B R : Option Addr} {ca cb cr bp : Nat} {v2 v3 v4 v5 v6 v7 v8 v9 v12 v13 v14 v15 v16 v17 v19 v20 v21 v22 v23 v24 v25 v26 v27 v28 v29 v30 v31 v36 v37 v38 v39 v40 : Value} {w0 : World} {L : List Hp} {w' : World} {q : Int} (h : chE t j per xs rs rows = q) (h0 : q ≠ 0) (b : Env w0 w' L) : ChAns t j per xs rs rows A B R ca cb cr bp v2 v3 v4 v5 v6 v7 v8 v9 v12 v13 v14 v15 v16 v17 v19 v20 v21 v22 v23 v24 v25 v26 v27 v28 v29 v30 v31 v36 v37 v38 v39 v40 w0 L (.returned (.int .i64 q)) w' := .inl ⟨by rw [h]; exact h0, by rw [h], b⟩
theorem changes_calls (t : List SRate) (j : ByteArray) (per : Int) (xs : List STri) (rs : List Int) (rows : List STri) (A B R : Option Addr) (ca cb cr bp bt : Nat) (v2 v3 v4 v5 v6 v7 v8 v9 v12 v13 v14 v15 v16 v17 v19 v20 v21 v22 v23 v24 v25 v26 v27 v28 v29 v30 v31 v32 v33 v34 v35 v36 v37 v38 v39 v40 : Value) (ht ho hs hr : Hp) (w0 w : World) (L : List Hp) (E : Env w0 w (Hp.box bp [.string j, .int .i64 per, v2, v3, v4, v5, v6, v7, v8, v9, .slice A xs.length ca, .slice B rs.length cb, v12, v13, v14, v15, v16, v17, .slice R rows.length cr, v19, v20, v21, v22, v23, v24, v25, v26, v27, v28, v29, v30, v31, v32, v33, v34, v35, v36, v37, v38, v39, v40] 44 :: L))
    (hts : ht.sub w0) (pt : PtT ht bt t) (hko : ho ∈ L) (sx : Sl kTri ho A ca xs) (hks : hs ∈ L) (ss : Sl kInt hs B cb rs) (hkr : hr ∈ L) (sr : Sl kTri hr R cr rows) (hll : rs.length = xs.length) (hlx : xs.length ≤ 200) (hlr : rows.length ≤ 200) :
    Calls Tryz.prog 59 #[.pointer (some ⟨bp, 0, none⟩), .pointer (some ⟨bt, 0, none⟩)] w (ChAns t j per xs rs rows A B R ca cb cr bp v2 v3 v4 v5 v6 v7 v8 v9 v12 v13 v14 v15 v16 v17 v19 v20 v21 v22 v23 v24 v25 v26 v27 v28 v29 v30 v31 v36 v37 v38 v39 v40 w0 L) := by
  have HK : Hid (chE t j per xs rs rows = if ratE t j ((fwd xs rows).map wbOf) per ≠ 0 then ratE t j ((fwd xs rows).map wbOf) per else remE (fwd xs rows) (wasOf t j per xs rs rows) (nowOf t j per xs rows)) := rfl
  have HN : Hid (nowOf t j per xs rows = ratL t j ((fwd xs rows).map wbOf) per) := rfl
  have HW : Hid (wasOf t j per xs rs rows = List.zipWith (oldX xs rs) (fwd xs rows) (nowOf t j per xs rows)) := rfl
  have hfl := fwd_len xs rows
  have eg : ∀ args w, (callFunc 120 args).run Tryz.prog w = .ok (.enter 120 args) w := enters_of Tryz.func120 (by kernel_rfl) rfl
  have FC := fun (W : World) (oW : ho.sub W) (rW : hr.sub W) => forward_calls A R ca cr xs rows ho hr W oW rW sx sr (by omega) (by omega)
  have TC := fun (W : World) (D N : Option Addr) (cd cn : Nat) (hd hn : Hp) (oW : ho.sub W) (rW : hr.sub W) (dW : hd.sub W) (nW : hn.sub W) (sd : Sl kInt hd D cd (wasOf t j per xs rs rows)) (sn : Sl kInt hn N cn (nowOf t j per xs rows)) => remTemp_calls A R D N ca cr cd cn xs rows (wasOf t j per xs rs rows) (nowOf t j per xs rows) ho hr hd hn W oW rW dW nW sx sr sd sn (by omega) (by omega)
  generalize hws : fwd xs rows = ws at *
  generalize hnw : nowOf t j per xs rows = nw at *
  generalize hwz : wasOf t j per xs rs rows = wz at *
  have L1 : nw.length = ws.length := by rw [HN.out]; simp [ratL]
  have L2 : wz.length = nw.length := by rw [HW.out, List.length_zipWith, L1, Nat.min_self]
  rw [L2] at TC
  replace L1 := Lib.hid L1
  replace L2 := Lib.hid L2
  clear hfl
  have hws2 : ws.length ≤ 400 := by rw [← hws]; have := fwd_len xs rows; omega
  have z0 := E.cell 0 rfl 10 rfl
  have z1 := E.cell 0 rfl 18 rfl
  go_enter Tryz.func59, Tryz.ntmps59
  go_upto_region 1 with fail
  refine wp_region_held_drew (S := (fun V => V.cell? ⟨bp, 10, none⟩ = some (.slice A xs.length ca) ∧ V.cell? ⟨bp, 18, none⟩ = some (.slice R rows.length cr))) (by kernel_rfl) ?_ (fun hHeld => ?_)
  · (try dsimp only)
    first | (go_keep)
  refine take_on (i := 0) (by (simp only [List.getElem?_toArray, List.getElem?_cons_succ, List.getElem?_cons_zero]) <;> rfl) (by kernel_rfl) (by kernel_rfl) (by kernel_rfl) (by intro _ _ _ _ h; exact h) (by rfl) (by assumption) ?_
  apply Exists.intro
  refine ⟨?_, ?_⟩
  · intro W0 hSw
    try dsimp only at hSw
    go_simp
    try (with_reducible rfl)
  try simp only [Act.put, List.setIfInBounds_toArray, List.set_cons_zero, List.set_cons_succ]
  refine take_on (i := 1) (by (simp only [List.getElem?_toArray, List.getElem?_cons_succ, List.getElem?_cons_zero]) <;> rfl) (by kernel_rfl) (by kernel_rfl) (by kernel_rfl) (by intro _ _ _ _ h; exact h) (by rfl) (by assumption) ?_
  apply Exists.intro
  refine ⟨?_, ?_⟩
  · intro W0 hSw
    try dsimp only at hSw
    go_simp
    try (with_reducible rfl)
  try simp only [Act.put, List.setIfInBounds_toArray, List.set_cons_zero, List.set_cons_succ]
  refine take_on (i := 2) (by (simp only [List.getElem?_toArray, List.getElem?_cons_succ, List.getElem?_cons_zero]) <;> rfl) (by kernel_rfl) (by kernel_rfl) (by kernel_rfl) (by intro _ _ _ _ h; exact h) (by rfl) (by assumption) ?_
  apply Exists.intro
  refine ⟨?_, ?_⟩
  · intro W0 hSw
    try dsimp only at hSw
    go_simp
    try (with_reducible rfl)
  try simp only [Act.put, List.setIfInBounds_toArray, List.set_cons_zero, List.set_cons_succ]
  refine take_on (i := 3) (by (simp only [List.getElem?_toArray, List.getElem?_cons_succ, List.getElem?_cons_zero]) <;> rfl) (by kernel_rfl) (by kernel_rfl) (by kernel_rfl) (by intro _ _ _ _ h; exact h) (by rfl) (by assumption) ?_
  apply Exists.intro
  refine ⟨?_, ?_⟩
  · intro W0 hSw
    try dsimp only at hSw
    go_simp
    try (with_reducible rfl)
  try simp only [Act.put, List.setIfInBounds_toArray, List.set_cons_zero, List.set_cons_succ]
  refine take_on (i := 4) (by (simp only [List.getElem?_toArray, List.getElem?_cons_succ, List.getElem?_cons_zero]) <;> rfl) (by kernel_rfl) (by kernel_rfl) (by kernel_rfl) (by intro _ _ _ _ h; exact h) (by rfl) (by assumption) ?_
  apply Exists.intro
  refine ⟨?_, ?_⟩
  · intro W0 hSw
    try dsimp only at hSw
    go_simp
    try (with_reducible rfl)
  try simp only [Act.put, List.setIfInBounds_toArray, List.set_cons_zero, List.set_cons_succ]
  refine take_on (i := 5) (by (simp only [List.getElem?_toArray, List.getElem?_cons_succ, List.getElem?_cons_zero]) <;> rfl) (by kernel_rfl) (by kernel_rfl) (by kernel_rfl) (by intro _ _ _ _ h; exact h) (by rfl) (by assumption) ?_
  apply Exists.intro
  refine ⟨?_, ?_⟩
  · intro W0 hSw
    try dsimp only at hSw
    go_simp
    try (with_reducible rfl)
  try simp only [Act.put, List.setIfInBounds_toArray, List.set_cons_zero, List.set_cons_succ]
  refine take_on (i := 6) (by (simp only [List.getElem?_toArray, List.getElem?_cons_succ, List.getElem?_cons_zero]) <;> rfl) (by kernel_rfl) (by kernel_rfl) (by kernel_rfl) (by intro _ _ _ _ h; exact h) (by rfl) (by assumption) ?_
  apply Exists.intro
  refine ⟨?_, ?_⟩
  · intro W0 hSw
    try dsimp only at hSw
    go_simp
    try (with_reducible rfl)
  try simp only [Act.put, List.setIfInBounds_toArray, List.set_cons_zero, List.set_cons_succ]
  refine take_on (i := 7) (by (simp only [List.getElem?_toArray, List.getElem?_cons_succ, List.getElem?_cons_zero]) <;> rfl) (by kernel_rfl) (by kernel_rfl) (by kernel_rfl) (by intro _ _ _ _ h; exact h) (by rfl) (by assumption) ?_
  apply Exists.intro
  refine ⟨?_, ?_⟩
  · intro W0 hSw
    try dsimp only at hSw
    go_simp
    try (with_reducible rfl)
  try simp only [Act.put, List.setIfInBounds_toArray, List.set_cons_zero, List.set_cons_succ]
  refine take_on (i := 8) (by (simp only [List.getElem?_toArray, List.getElem?_cons_succ, List.getElem?_cons_zero]) <;> rfl) (by kernel_rfl) (by kernel_rfl) (by kernel_rfl) (by intro _ _ _ _ h; exact h) (by rfl) (by assumption) ?_
  apply Exists.intro
  refine ⟨?_, ?_⟩
  · intro W0 hSw
    try dsimp only at hSw
    go_simp
    try (with_reducible rfl)
  try simp only [Act.put, List.setIfInBounds_toArray, List.set_cons_zero, List.set_cons_succ]
  refine take_on (i := 9) (by (simp only [List.getElem?_toArray, List.getElem?_cons_succ, List.getElem?_cons_zero]) <;> rfl) (by kernel_rfl) (by kernel_rfl) (by kernel_rfl) (by intro _ _ _ _ h; exact h) (by rfl) (by assumption) ?_
  apply Exists.intro
  refine ⟨?_, ?_⟩
  · intro W0 hSw
    try dsimp only at hSw
    go_simp
    try (with_reducible rfl)
  try simp only [Act.put, List.setIfInBounds_toArray, List.set_cons_zero, List.set_cons_succ]
  refine take_on (i := 10) (by (simp only [List.getElem?_toArray, List.getElem?_cons_succ, List.getElem?_cons_zero]) <;> rfl) (by kernel_rfl) (by kernel_rfl) (by kernel_rfl) (by intro _ _ _ _ h; exact h) (by rfl) (by assumption) ?_
  apply Exists.intro
  refine ⟨?_, ?_⟩
  · intro W0 hSw
    try dsimp only at hSw
    go_simp
    try (with_reducible rfl)
  try simp only [Act.put, List.setIfInBounds_toArray, List.set_cons_zero, List.set_cons_succ]
  refine wpAnyH_ready (rs := [11]) (by kernel_rfl) (by simp) ?_
  refine AllReadyH.cons (by (simp only [List.getElem?_toArray, List.getElem?_cons_succ, List.getElem?_cons_zero]) <;> rfl) (fun K hK => ?_) AllReadyH.nil
  go_simp
  refine (FC _ (Env.at_mem (by repeat (first | (with_reducible exact E) | (with_reducible apply Env.drew) | (with_reducible apply Env.drewN) | (with_reducible apply Env.alloc'))) (by simp [hko])) (Env.at_mem (by repeat (first | (with_reducible exact E) | (with_reducible apply Env.drew) | (with_reducible apply Env.drewN) | (with_reducible apply Env.alloc'))) (by simp [hkr]))).mono ?_
  rintro e w5 ⟨C, cw, hw, rfl, ow, u5⟩
  have E5 := E.drew.new1 u5
  have hkeep := And.intro (E5.cell 0 rfl 10 rfl) (E5.cell 0 rfl 18 rfl)
  go_wp2_with fail
  have c32 := E5.cell 0 rfl 32 rfl
  have cf := fun n => E5.free 0 rfl n
  refine hK.out _ _ ?_ (fun hHeld => ?_)
  · (try dsimp only)
    first | (exact hkeep) | (go_keep)
  clear hK K
  try simp only [Act.put, List.setIfInBounds_toArray, List.set_cons_zero, List.set_cons_succ]
  refine take_on (i := 12) (by (simp only [List.getElem?_toArray, List.getElem?_cons_succ, List.getElem?_cons_zero]) <;> rfl) (by kernel_rfl) (by kernel_rfl) (by kernel_rfl) (by intro _ _ _ _ h; exact h) (by rfl) (by assumption) ?_
  apply Exists.intro
  refine ⟨?_, ?_⟩
  · intro W0 hSw
    try dsimp only at hSw
    go_simp
    try (with_reducible rfl)
  try simp only [Act.put, List.setIfInBounds_toArray, List.set_cons_zero, List.set_cons_succ]
  refine take_on (i := 13) (by (simp only [List.getElem?_toArray, List.getElem?_cons_succ, List.getElem?_cons_zero]) <;> rfl) (by kernel_rfl) (by kernel_rfl) (by kernel_rfl) (by intro _ _ _ _ h; exact h) (by rfl) (by assumption) ?_
  apply Exists.intro
  refine ⟨?_, ?_⟩
  · intro W0 hSw
    try dsimp only at hSw
    go_simp
    try (with_reducible rfl)
  try simp only [Act.put, List.setIfInBounds_toArray, List.set_cons_zero, List.set_cons_succ]
  refine wpAnyH_ready (rs := [14]) (by kernel_rfl) (by simp) ?_
  refine AllReadyH.cons (by (simp only [List.getElem?_toArray, List.getElem?_cons_succ, List.getElem?_cons_zero]) <;> rfl) (fun K hK => ?_) AllReadyH.nil
  go_simp
  have E6 := E5.cellset 0 rfl 32 (.slice C ws.length cw)
  simp only [List.set_cons_zero, List.set_cons_succ] at E6
  have hkeep := And.intro (E6.cell 0 rfl 10 rfl) (E6.cell 0 rfl 18 rfl)
  refine hK.out _ _ ?_ (fun hHeld => ?_)
  · (try dsimp only)
    first | (exact hkeep) | (go_keep)
  clear hK K
  try simp only [Act.put, List.setIfInBounds_toArray, List.set_cons_zero, List.set_cons_succ]
  refine wpAnyH_done (by kernel_rfl) ?_ _
  clear hHeld hkeep z0 z1 E E5 c32 cf FC
  generalize World.setCell _ _ _ = W6 at *
  have z0 := E6.cell 0 rfl 32 rfl
  go_wp2
  go_loopw [5, 33] (fun v i wr => ∃ (q cap : Nat) (D : Option Addr) (h' : Hp) (os : List STri), q ≤ ws.length ∧ i = .int .i64 q ∧ v = .slice D q cap ∧ Hid (os.length = q) ∧ Hid (os = (ws.take q).map wbOf) ∧ Ow kTri h' D cap os ∧ Env w0 wr (Hp.box bp [.string j, .int .i64 per, v2, v3, v4, v5, v6, v7, v8, v9, .slice A xs.length ca, .slice B rs.length cb, v12, v13, v14, v15, v16, v17, .slice R rows.length cr, v19, v20, v21, v22, v23, v24, v25, v26, v27, v28, v29, v30, v31, .slice C ws.length cw, v33, v34, v35, v36, v37, v38, v39, v40] 44 :: h' :: hw :: L)) (fun _ i _ => ws.length - (intOf i).toNat)
  case atStart => exact ⟨0, 0, none, Hp.none, [], by omega, rfl, rfl, rfl, by unfold Hid; simp, Ow.none _ _, E6.new1 (Upd.of_below (Below.refl _ _))⟩
  case round =>
    clear z0 E6
    obtain ⟨q, cap, D, h', os, hq, rfl, rfl, hm, ho', o, E⟩ := hrel
    have z0 := E.cell 0 rfl 0 rfl
    have z1 := E.cell 0 rfl 1 rfl
    by_cases hlt : q < ws.length
    · obtain ⟨x, hx⟩ := some_of_lt hlt
      obtain ⟨bx, ox, rfl, c1, c2, c3, c4, c5⟩ := ow.sl.way (E.sub 2 rfl) hx
      have i1 : (0 : Int) ≤ (q : Int) := by omega
      have i2 : (q : Int) < (ws.length : Int) := by omega
      have HO : Hid (os ++ [(⟨x.cls, x.yr, 0⟩ : STri)] = (ws.take (q + 1)).map wbOf) := by unfold Hid; rw [take_next hx, List.map_append, ho'.out]; rfl
      have E2 := E.alloc1 (.cells #[.int .i64 x.cls, .int .i64 x.yr, .int .i64 x.opn, .int .i64 x.mov, .int .i64 x.clo] 65)
      have E3 := E2.alloc1 (.cells #[.int .i64 x.cls, .int .i64 x.yr, .int .i64 0] 97)
      go_wp2_with (at_builtin; refine wpList_eapp 3 ⟨x.cls, x.yr, 0⟩ Tryz.underlying34 info_bucket E3 (by rfl) o q hm.out (by rfl) (by rfl) rfl 1 (by rfl) (by rfl) (heap_new_at (by simp)) (by rfl) (by omega) (by omega) ?_; intro C7 n7 w7 h7 o7 E7)
      simp only [List.set_cons_zero, List.set_cons_succ] at E7
      have E8 := (E7.drop 1).drop 1
      simp at E8
      go_roundw
      case rel => exact ⟨q + 1, n7, C7, h7, os ++ [⟨x.cls, x.yr, 0⟩], by omega, by go_num, rfl, by unfold Hid; rw [List.length_append, hm.out]; rfl, HO, o7, E8⟩
      case measure => simp [intOf]; omega
    · obtain rfl : q = ws.length := by omega
      rw [List.take_length] at ho'
      have hob : os.length ≤ 1000000 := by rw [hm.out]; omega
      have MC := fun (W : World) (hW : Below w0.heap.size w0 W) (kW : h'.sub W) => measRates_calls bt t j D cap os per ht h' W (hts.of_below hW) pt kW o.sl hob
      rw [hm.out] at MC
      have HE : Hid (ratE t j (ws.map wbOf) per = ratE t j os per) := by unfold Hid; rw [ho'.out]
      have HV : Hid (ratL t j os per = nw) := by unfold Hid; rw [ho'.out, ← HN.out]
      generalize ratE t j os per = re at *
      generalize ratL t j os per = rl at *
      obtain rfl := HV.out
      rcases Int.decEq re 0 with h0 | h0
      · have HE2 : Hid (chE t j per xs rs rows = re) := by unfold Hid; rw [HK.out, HE.out, if_pos h0]
        have H0 := Lib.hid h0
        have t1 : (re != 0) = true := by simpa using h0
        go_upto_region 8 with fail
        refine wp_region_held_drew (S := (fun V => V.cell? ⟨bp, 0, none⟩ = some (.string j) ∧ V.cell? ⟨bp, 1, none⟩ = some (.int .i64 per))) (by kernel_rfl) ?_ (fun hHeld => ?_)
        · (try dsimp only)
          first | (go_keep)
        refine take_on (i := 0) (by (simp only [List.getElem?_toArray, List.getElem?_cons_succ, List.getElem?_cons_zero]) <;> rfl) (by kernel_rfl) (by kernel_rfl) (by kernel_rfl) (by intro _ _ _ _ h; exact h) (by rfl) (by assumption) ?_
        apply Exists.intro
        refine ⟨?_, ?_⟩
        · intro W0 hSw
          try dsimp only at hSw
          go_simp
          try (with_reducible rfl)
        try simp only [Act.put, List.setIfInBounds_toArray, List.set_cons_zero, List.set_cons_succ]
        refine take_on (i := 1) (by (simp only [List.getElem?_toArray, List.getElem?_cons_succ, List.getElem?_cons_zero]) <;> rfl) (by kernel_rfl) (by kernel_rfl) (by kernel_rfl) (by intro _ _ _ _ h; exact h) (by rfl) (by assumption) ?_
        apply Exists.intro
        refine ⟨?_, ?_⟩
        · intro W0 hSw
          try dsimp only at hSw
          go_simp
          try (with_reducible rfl)
        try simp only [Act.put, List.setIfInBounds_toArray, List.set_cons_zero, List.set_cons_succ]
        refine take_on (i := 2) (by (simp only [List.getElem?_toArray, List.getElem?_cons_succ, List.getElem?_cons_zero]) <;> rfl) (by kernel_rfl) (by kernel_rfl) (by kernel_rfl) (by intro _ _ _ _ h; exact h) (by rfl) (by assumption) ?_
        apply Exists.intro
        refine ⟨?_, ?_⟩
        · intro W0 hSw
          try dsimp only at hSw
          go_simp
          try (with_reducible rfl)
        try simp only [Act.put, List.setIfInBounds_toArray, List.set_cons_zero, List.set_cons_succ]
        refine take_on (i := 3) (by (simp only [List.getElem?_toArray, List.getElem?_cons_succ, List.getElem?_cons_zero]) <;> rfl) (by kernel_rfl) (by kernel_rfl) (by kernel_rfl) (by intro _ _ _ _ h; exact h) (by rfl) (by assumption) ?_
        apply Exists.intro
        refine ⟨?_, ?_⟩
        · intro W0 hSw
          try dsimp only at hSw
          go_simp
          try (with_reducible rfl)
        try simp only [Act.put, List.setIfInBounds_toArray, List.set_cons_zero, List.set_cons_succ]
        refine take_on (i := 4) (by (simp only [List.getElem?_toArray, List.getElem?_cons_succ, List.getElem?_cons_zero]) <;> rfl) (by kernel_rfl) (by kernel_rfl) (by kernel_rfl) (by intro _ _ _ _ h; exact h) (by rfl) (by assumption) ?_
        apply Exists.intro
        refine ⟨?_, ?_⟩
        · intro W0 hSw
          try dsimp only at hSw
          go_simp
          try (with_reducible rfl)
        try simp only [Act.put, List.setIfInBounds_toArray, List.set_cons_zero, List.set_cons_succ]
        refine take_on (i := 5) (by (simp only [List.getElem?_toArray, List.getElem?_cons_succ, List.getElem?_cons_zero]) <;> rfl) (by kernel_rfl) (by kernel_rfl) (by kernel_rfl) (by intro _ _ _ _ h; exact h) (by rfl) (by assumption) ?_
        apply Exists.intro
        refine ⟨?_, ?_⟩
        · intro W0 hSw
          try dsimp only at hSw
          go_simp
          try (with_reducible rfl)
        try simp only [Act.put, List.setIfInBounds_toArray, List.set_cons_zero, List.set_cons_succ]
        refine take_on (i := 6) (by (simp only [List.getElem?_toArray, List.getElem?_cons_succ, List.getElem?_cons_zero]) <;> rfl) (by kernel_rfl) (by kernel_rfl) (by kernel_rfl) (by intro _ _ _ _ h; exact h) (by rfl) (by assumption) ?_
        apply Exists.intro
        refine ⟨?_, ?_⟩
        · intro W0 hSw
          try dsimp only at hSw
          go_simp
          try (with_reducible rfl)
        try simp only [Act.put, List.setIfInBounds_toArray, List.set_cons_zero, List.set_cons_succ]
        refine take_on (i := 7) (by (simp only [List.getElem?_toArray, List.getElem?_cons_succ, List.getElem?_cons_zero]) <;> rfl) (by kernel_rfl) (by kernel_rfl) (by kernel_rfl) (by intro _ _ _ _ h; exact h) (by rfl) (by assumption) ?_
        apply Exists.intro
        refine ⟨?_, ?_⟩
        · intro W0 hSw
          try dsimp only at hSw
          go_simp
          try (with_reducible rfl)
        try simp only [Act.put, List.setIfInBounds_toArray, List.set_cons_zero, List.set_cons_succ]
        refine take_on (i := 8) (by (simp only [List.getElem?_toArray, List.getElem?_cons_succ, List.getElem?_cons_zero]) <;> rfl) (by kernel_rfl) (by kernel_rfl) (by kernel_rfl) (by intro _ _ _ _ h; exact h) (by rfl) (by assumption) ?_
        apply Exists.intro
        refine ⟨?_, ?_⟩
        · intro W0 hSw
          try dsimp only at hSw
          go_simp
          try (with_reducible rfl)
        try simp only [Act.put, List.setIfInBounds_toArray, List.set_cons_zero, List.set_cons_succ]
        refine take_on (i := 9) (by (simp only [List.getElem?_toArray, List.getElem?_cons_succ, List.getElem?_cons_zero]) <;> rfl) (by kernel_rfl) (by kernel_rfl) (by kernel_rfl) (by intro _ _ _ _ h; exact h) (by rfl) (by assumption) ?_
        apply Exists.intro
        refine ⟨?_, ?_⟩
        · intro W0 hSw
          try dsimp only at hSw
          go_simp
          try (with_reducible rfl)
        try simp only [Act.put, List.setIfInBounds_toArray, List.set_cons_zero, List.set_cons_succ]
        refine take_on (i := 10) (by (simp only [List.getElem?_toArray, List.getElem?_cons_succ, List.getElem?_cons_zero]) <;> rfl) (by kernel_rfl) (by kernel_rfl) (by kernel_rfl) (by intro _ _ _ _ h; exact h) (by rfl) (by assumption) ?_
        apply Exists.intro
        refine ⟨?_, ?_⟩
        · intro W0 hSw
          try dsimp only at hSw
          go_simp
          try (with_reducible rfl)
        try simp only [Act.put, List.setIfInBounds_toArray, List.set_cons_zero, List.set_cons_succ]
        refine take_on (i := 11) (by (simp only [List.getElem?_toArray, List.getElem?_cons_succ, List.getElem?_cons_zero]) <;> rfl) (by kernel_rfl) (by kernel_rfl) (by kernel_rfl) (by intro _ _ _ _ h; exact h) (by rfl) (by assumption) ?_
        apply Exists.intro
        refine ⟨?_, ?_⟩
        · intro W0 hSw
          try dsimp only at hSw
          go_simp
          try (with_reducible rfl)
        try simp only [Act.put, List.setIfInBounds_toArray, List.set_cons_zero, List.set_cons_succ]
        refine wpAnyH_ready (rs := [12]) (by kernel_rfl) (by simp) ?_
        refine AllReadyH.cons (by (simp only [List.getElem?_toArray, List.getElem?_cons_succ, List.getElem?_cons_zero]) <;> rfl) (fun K hK => ?_) AllReadyH.nil
        go_simp
        refine (MC _ (Env.low (by repeat (first | (with_reducible exact E) | (with_reducible apply Env.drew) | (with_reducible apply Env.drewN) | (with_reducible apply Env.alloc')))) (Env.at_mem (by repeat (first | (with_reducible exact E) | (with_reducible apply Env.drew) | (with_reducible apply Env.drewN) | (with_reducible apply Env.alloc'))) (by simp))).mono ?_
        rintro e w5 hR
        rcases hR with ⟨_, rfl, B5⟩ | ⟨h1, _⟩
        case inr => exact absurd h1 H0.out
        have E5 := E.drew.below B5
        have hkeep := And.intro (E5.cell 0 rfl 0 rfl) (E5.cell 0 rfl 1 rfl)
        go_wp2_with fail
        refine hK.out _ _ ?_ (fun hHeld => ?_)
        · (try dsimp only)
          first | (exact hkeep) | (go_keep)
        clear hK K
        try simp only [Act.put, List.setIfInBounds_toArray, List.set_cons_zero, List.set_cons_succ]
        refine take_on (i := 13) (by (simp only [List.getElem?_toArray, List.getElem?_cons_succ, List.getElem?_cons_zero]) <;> rfl) (by kernel_rfl) (by kernel_rfl) (by kernel_rfl) (by intro _ _ _ _ h; exact h) (by rfl) (by assumption) ?_
        apply Exists.intro
        refine ⟨?_, ?_⟩
        · intro W0 hSw
          try dsimp only at hSw
          go_simp
          try (with_reducible rfl)
        try simp only [Act.put, List.setIfInBounds_toArray, List.set_cons_zero, List.set_cons_succ]
        refine take_on (i := 14) (by (simp only [List.getElem?_toArray, List.getElem?_cons_succ, List.getElem?_cons_zero]) <;> rfl) (by kernel_rfl) (by kernel_rfl) (by kernel_rfl) (by intro _ _ _ _ h; exact h) (by rfl) (by assumption) ?_
        apply Exists.intro
        refine ⟨?_, ?_⟩
        · intro W0 hSw
          try dsimp only at hSw
          go_simp
          try (with_reducible rfl)
        try simp only [Act.put, List.setIfInBounds_toArray, List.set_cons_zero, List.set_cons_succ]
        refine take_on (i := 15) (by (simp only [List.getElem?_toArray, List.getElem?_cons_succ, List.getElem?_cons_zero]) <;> rfl) (by kernel_rfl) (by kernel_rfl) (by kernel_rfl) (by intro _ _ _ _ h; exact h) (by rfl) (by assumption) ?_
        apply Exists.intro
        refine ⟨?_, ?_⟩
        · intro W0 hSw
          try dsimp only at hSw
          go_simp
          try (with_reducible rfl)
        try simp only [Act.put, List.setIfInBounds_toArray, List.set_cons_zero, List.set_cons_succ]
        refine take_on (i := 16) (by (simp only [List.getElem?_toArray, List.getElem?_cons_succ, List.getElem?_cons_zero]) <;> rfl) (by kernel_rfl) (by kernel_rfl) (by kernel_rfl) (by intro _ _ _ _ h; exact h) (by rfl) (by assumption) ?_
        apply Exists.intro
        refine ⟨?_, ?_⟩
        · intro W0 hSw
          try dsimp only at hSw
          go_simp
          try (with_reducible rfl)
        try simp only [Act.put, List.setIfInBounds_toArray, List.set_cons_zero, List.set_cons_succ]
        refine take_on (i := 17) (by (simp only [List.getElem?_toArray, List.getElem?_cons_succ, List.getElem?_cons_zero]) <;> rfl) (by kernel_rfl) (by kernel_rfl) (by kernel_rfl) (by intro _ _ _ _ h; exact h) (by rfl) (by assumption) ?_
        apply Exists.intro
        refine ⟨?_, ?_⟩
        · intro W0 hSw
          try dsimp only at hSw
          go_simp
          try (with_reducible rfl)
        try simp only [Act.put, List.setIfInBounds_toArray, List.set_cons_zero, List.set_cons_succ]
        refine wpAnyH_done (by kernel_rfl) ?_ _
        have EL := ((E5.drop 0).drop 0).drop 0
        simp at EL
        clear h0 hHeld hkeep
        go_wp2
        go_ret
        exact .no HE2.out H0.out EL
      subst h0
      have HK2 : Hid (chE t j per xs rs rows = remE ws wz rl) := by unfold Hid; rw [HK.out, HE.out]; rfl
      clear HK HE
      go_upto_region 8 with fail
      refine wp_region_held_drew (S := (fun V => V.cell? ⟨bp, 0, none⟩ = some (.string j) ∧ V.cell? ⟨bp, 1, none⟩ = some (.int .i64 per))) (by kernel_rfl) ?_ (fun hHeld => ?_)
      · (try dsimp only)
        first | (go_keep)
      refine take_on (i := 0) (by (simp only [List.getElem?_toArray, List.getElem?_cons_succ, List.getElem?_cons_zero]) <;> rfl) (by kernel_rfl) (by kernel_rfl) (by kernel_rfl) (by intro _ _ _ _ h; exact h) (by rfl) (by assumption) ?_
      apply Exists.intro
      refine ⟨?_, ?_⟩
      · intro W0 hSw
        try dsimp only at hSw
        go_simp
        try (with_reducible rfl)
      try simp only [Act.put, List.setIfInBounds_toArray, List.set_cons_zero, List.set_cons_succ]
      refine take_on (i := 1) (by (simp only [List.getElem?_toArray, List.getElem?_cons_succ, List.getElem?_cons_zero]) <;> rfl) (by kernel_rfl) (by kernel_rfl) (by kernel_rfl) (by intro _ _ _ _ h; exact h) (by rfl) (by assumption) ?_
      apply Exists.intro
      refine ⟨?_, ?_⟩
      · intro W0 hSw
        try dsimp only at hSw
        go_simp
        try (with_reducible rfl)
      try simp only [Act.put, List.setIfInBounds_toArray, List.set_cons_zero, List.set_cons_succ]
      refine take_on (i := 2) (by (simp only [List.getElem?_toArray, List.getElem?_cons_succ, List.getElem?_cons_zero]) <;> rfl) (by kernel_rfl) (by kernel_rfl) (by kernel_rfl) (by intro _ _ _ _ h; exact h) (by rfl) (by assumption) ?_
      apply Exists.intro
      refine ⟨?_, ?_⟩
      · intro W0 hSw
        try dsimp only at hSw
        go_simp
        try (with_reducible rfl)
      try simp only [Act.put, List.setIfInBounds_toArray, List.set_cons_zero, List.set_cons_succ]
      refine take_on (i := 3) (by (simp only [List.getElem?_toArray, List.getElem?_cons_succ, List.getElem?_cons_zero]) <;> rfl) (by kernel_rfl) (by kernel_rfl) (by kernel_rfl) (by intro _ _ _ _ h; exact h) (by rfl) (by assumption) ?_
      apply Exists.intro
      refine ⟨?_, ?_⟩
      · intro W0 hSw
        try dsimp only at hSw
        go_simp
        try (with_reducible rfl)
      try simp only [Act.put, List.setIfInBounds_toArray, List.set_cons_zero, List.set_cons_succ]
      refine take_on (i := 4) (by (simp only [List.getElem?_toArray, List.getElem?_cons_succ, List.getElem?_cons_zero]) <;> rfl) (by kernel_rfl) (by kernel_rfl) (by kernel_rfl) (by intro _ _ _ _ h; exact h) (by rfl) (by assumption) ?_
      apply Exists.intro
      refine ⟨?_, ?_⟩
      · intro W0 hSw
        try dsimp only at hSw
        go_simp
        try (with_reducible rfl)
      try simp only [Act.put, List.setIfInBounds_toArray, List.set_cons_zero, List.set_cons_succ]
      refine take_on (i := 5) (by (simp only [List.getElem?_toArray, List.getElem?_cons_succ, List.getElem?_cons_zero]) <;> rfl) (by kernel_rfl) (by kernel_rfl) (by kernel_rfl) (by intro _ _ _ _ h; exact h) (by rfl) (by assumption) ?_
      apply Exists.intro
      refine ⟨?_, ?_⟩
      · intro W0 hSw
        try dsimp only at hSw
        go_simp
        try (with_reducible rfl)
      try simp only [Act.put, List.setIfInBounds_toArray, List.set_cons_zero, List.set_cons_succ]
      refine take_on (i := 6) (by (simp only [List.getElem?_toArray, List.getElem?_cons_succ, List.getElem?_cons_zero]) <;> rfl) (by kernel_rfl) (by kernel_rfl) (by kernel_rfl) (by intro _ _ _ _ h; exact h) (by rfl) (by assumption) ?_
      apply Exists.intro
      refine ⟨?_, ?_⟩
      · intro W0 hSw
        try dsimp only at hSw
        go_simp
        try (with_reducible rfl)
      try simp only [Act.put, List.setIfInBounds_toArray, List.set_cons_zero, List.set_cons_succ]
      refine take_on (i := 7) (by (simp only [List.getElem?_toArray, List.getElem?_cons_succ, List.getElem?_cons_zero]) <;> rfl) (by kernel_rfl) (by kernel_rfl) (by kernel_rfl) (by intro _ _ _ _ h; exact h) (by rfl) (by assumption) ?_
      apply Exists.intro
      refine ⟨?_, ?_⟩
      · intro W0 hSw
        try dsimp only at hSw
        go_simp
        try (with_reducible rfl)
      try simp only [Act.put, List.setIfInBounds_toArray, List.set_cons_zero, List.set_cons_succ]
      refine take_on (i := 8) (by (simp only [List.getElem?_toArray, List.getElem?_cons_succ, List.getElem?_cons_zero]) <;> rfl) (by kernel_rfl) (by kernel_rfl) (by kernel_rfl) (by intro _ _ _ _ h; exact h) (by rfl) (by assumption) ?_
      apply Exists.intro
      refine ⟨?_, ?_⟩
      · intro W0 hSw
        try dsimp only at hSw
        go_simp
        try (with_reducible rfl)
      try simp only [Act.put, List.setIfInBounds_toArray, List.set_cons_zero, List.set_cons_succ]
      refine take_on (i := 9) (by (simp only [List.getElem?_toArray, List.getElem?_cons_succ, List.getElem?_cons_zero]) <;> rfl) (by kernel_rfl) (by kernel_rfl) (by kernel_rfl) (by intro _ _ _ _ h; exact h) (by rfl) (by assumption) ?_
      apply Exists.intro
      refine ⟨?_, ?_⟩
      · intro W0 hSw
        try dsimp only at hSw
        go_simp
        try (with_reducible rfl)
      try simp only [Act.put, List.setIfInBounds_toArray, List.set_cons_zero, List.set_cons_succ]
      refine take_on (i := 10) (by (simp only [List.getElem?_toArray, List.getElem?_cons_succ, List.getElem?_cons_zero]) <;> rfl) (by kernel_rfl) (by kernel_rfl) (by kernel_rfl) (by intro _ _ _ _ h; exact h) (by rfl) (by assumption) ?_
      apply Exists.intro
      refine ⟨?_, ?_⟩
      · intro W0 hSw
        try dsimp only at hSw
        go_simp
        try (with_reducible rfl)
      try simp only [Act.put, List.setIfInBounds_toArray, List.set_cons_zero, List.set_cons_succ]
      refine take_on (i := 11) (by (simp only [List.getElem?_toArray, List.getElem?_cons_succ, List.getElem?_cons_zero]) <;> rfl) (by kernel_rfl) (by kernel_rfl) (by kernel_rfl) (by intro _ _ _ _ h; exact h) (by rfl) (by assumption) ?_
      apply Exists.intro
      refine ⟨?_, ?_⟩
      · intro W0 hSw
        try dsimp only at hSw
        go_simp
        try (with_reducible rfl)
      try simp only [Act.put, List.setIfInBounds_toArray, List.set_cons_zero, List.set_cons_succ]
      refine wpAnyH_ready (rs := [12]) (by kernel_rfl) (by simp) ?_
      refine AllReadyH.cons (by (simp only [List.getElem?_toArray, List.getElem?_cons_succ, List.getElem?_cons_zero]) <;> rfl) (fun K hK => ?_) AllReadyH.nil
      go_simp
      refine (MC _ (Env.low (by repeat (first | (with_reducible exact E) | (with_reducible apply Env.drew) | (with_reducible apply Env.drewN) | (with_reducible apply Env.alloc')))) (Env.at_mem (by repeat (first | (with_reducible exact E) | (with_reducible apply Env.drew) | (with_reducible apply Env.drewN) | (with_reducible apply Env.alloc'))) (by simp))).mono ?_
      rintro e w5 hR
      rcases hR with ⟨h1, _⟩ | ⟨_, N, cn, hn, rfl, on, u5⟩
      case inl => exact absurd rfl h1
      have E5 := (E.drew.new1 u5).drop 2
      simp at E5
      have hkeep := And.intro (E5.cell 0 rfl 0 rfl) (E5.cell 0 rfl 1 rfl)
      go_wp2_with fail
      refine hK.out _ _ ?_ (fun hHeld => ?_)
      · (try dsimp only)
        first | (exact hkeep) | (go_keep)
      clear hK K
      try simp only [Act.put, List.setIfInBounds_toArray, List.set_cons_zero, List.set_cons_succ]
      refine take_on (i := 13) (by (simp only [List.getElem?_toArray, List.getElem?_cons_succ, List.getElem?_cons_zero]) <;> rfl) (by kernel_rfl) (by kernel_rfl) (by kernel_rfl) (by intro _ _ _ _ h; exact h) (by rfl) (by assumption) ?_
      apply Exists.intro
      refine ⟨?_, ?_⟩
      · intro W0 hSw
        try dsimp only at hSw
        go_simp
        try (with_reducible rfl)
      try simp only [Act.put, List.setIfInBounds_toArray, List.set_cons_zero, List.set_cons_succ]
      refine take_on (i := 14) (by (simp only [List.getElem?_toArray, List.getElem?_cons_succ, List.getElem?_cons_zero]) <;> rfl) (by kernel_rfl) (by kernel_rfl) (by kernel_rfl) (by intro _ _ _ _ h; exact h) (by rfl) (by assumption) ?_
      apply Exists.intro
      refine ⟨?_, ?_⟩
      · intro W0 hSw
        try dsimp only at hSw
        go_simp
        try (with_reducible rfl)
      try simp only [Act.put, List.setIfInBounds_toArray, List.set_cons_zero, List.set_cons_succ]
      refine take_on (i := 15) (by (simp only [List.getElem?_toArray, List.getElem?_cons_succ, List.getElem?_cons_zero]) <;> rfl) (by kernel_rfl) (by kernel_rfl) (by kernel_rfl) (by intro _ _ _ _ h; exact h) (by rfl) (by assumption) ?_
      apply Exists.intro
      refine ⟨?_, ?_⟩
      · intro W0 hSw
        try dsimp only at hSw
        go_simp
        try (with_reducible rfl)
      try simp only [Act.put, List.setIfInBounds_toArray, List.set_cons_zero, List.set_cons_succ]
      refine take_on (i := 16) (by (simp only [List.getElem?_toArray, List.getElem?_cons_succ, List.getElem?_cons_zero]) <;> rfl) (by kernel_rfl) (by kernel_rfl) (by kernel_rfl) (by intro _ _ _ _ h; exact h) (by rfl) (by assumption) ?_
      apply Exists.intro
      refine ⟨?_, ?_⟩
      · intro W0 hSw
        try dsimp only at hSw
        go_simp
        try (with_reducible rfl)
      try simp only [Act.put, List.setIfInBounds_toArray, List.set_cons_zero, List.set_cons_succ]
      refine take_on (i := 17) (by (simp only [List.getElem?_toArray, List.getElem?_cons_succ, List.getElem?_cons_zero]) <;> rfl) (by kernel_rfl) (by kernel_rfl) (by kernel_rfl) (by intro _ _ _ _ h; exact h) (by rfl) (by assumption) ?_
      apply Exists.intro
      refine ⟨?_, ?_⟩
      · intro W0 hSw
        try dsimp only at hSw
        go_simp
        try (with_reducible rfl)
      try simp only [Act.put, List.setIfInBounds_toArray, List.set_cons_zero, List.set_cons_succ]
      refine wpAnyH_done (by kernel_rfl) ?_ _
      clear hHeld hkeep z0 z1 E MC o
      have z0 := E5.cell 0 rfl 33 rfl
      have zf := fun n => E5.free 0 rfl n
      go_wp2_with fail
      have E6 := E5.cellset 0 rfl 33 (.slice N rl.length cn)
      simp only [List.set_cons_zero, List.set_cons_succ] at E6
      clear z0 zf E5
      generalize World.setCell _ _ _ = W6 at *
      refine (clone_int N cn rl hn W6 (E6.sub 1 rfl) on.sl (by rw [L1.out]; omega)).mono ?_
      rintro e w7 ⟨D2, cd, hd, rfl, od, u7⟩
      have E7 := E6.new1 u7
      clear E6
      have z0 := E7.cell 0 rfl 32 rfl
      go_wp2
      go_loopw [76] (fun i wr => ∃ (q : Nat) (h' : Hp) (cur : List Int), q ≤ ws.length ∧ i = .int .i64 q ∧ Hid (cur.length = rl.length) ∧ Hid (cur = List.zipWith (oldX xs rs) (ws.take q) (rl.take q) ++ rl.drop q) ∧ Ow kInt h' D2 cd cur ∧ Env w0 wr (Hp.box bp [.string j, .int .i64 per, v2, v3, v4, v5, v6, v7, v8, v9, .slice A xs.length ca, .slice B rs.length cb, v12, v13, v14, v15, v16, v17, .slice R rows.length cr, v19, v20, v21, v22, v23, v24, v25, v26, v27, v28, v29, v30, v31, .slice C ws.length cw, .slice N rl.length cn, v34, v35, v36, v37, v38, v39, v40] 44 :: h' :: hn :: hw :: L)) (fun i _ => ws.length - (intOf i).toNat)
      case atStart => exact ⟨0, hd, rl, by omega, rfl, rfl, by unfold Hid; simp, od, E7⟩
      case round =>
        clear z0 E7 od
        obtain ⟨q, h', cur, hq, rfl, hm2, hc2, o, E⟩ := hrel
        by_cases hlt : q < ws.length
        · obtain ⟨x, hx⟩ := some_of_lt hlt
          obtain ⟨n, hn'⟩ := some_of_lt (show q < rl.length by rw [L1.out]; exact hlt)
          have i1 : (0 : Int) ≤ (q : Int) := by omega
          have i2 : (q : Int) < (ws.length : Int) := by omega
          have i3 : (q : Int) < (rl.length : Int) := by rw [L1.out]; omega
          have HS : Hid (cur.set q (oldX xs rs x n) = List.zipWith (oldX xs rs) (ws.take (q + 1)) (rl.take (q + 1)) ++ rl.drop (q + 1)) := by unfold Hid; rw [hc2.out]; exact zip_set _ _ _ _ _ _ hx.out hn'.out
          have HG : Hid (cur[q]? = some n) := by unfold Hid; rw [hc2.out]; exact zip_at _ _ _ _ _ _ hx.out hn'.out
          have E2 := E.alloc1 (.cells #[.int .i64 x.cls, .int .i64 x.yr, .int .i64 x.opn, .int .i64 x.mov, .int .i64 x.clo] 65)
          have IC := fun (W : World) (EW : Env w0 W (Hp.box bp [.string j, .int .i64 per, v2, v3, v4, v5, v6, v7, v8, v9, .slice A xs.length ca, .slice B rs.length cb, v12, v13, v14, v15, v16, v17, .slice R rows.length cr, v19, v20, v21, v22, v23, v24, v25, v26, v27, v28, v29, v30, v31, .slice C ws.length cw, .slice N rl.length cn, v34, v35, v36, v37, v38, v39, v40] 44 :: Hp.box wr.heap.size [.int .i64 x.cls, .int .i64 x.yr, .int .i64 x.opn, .int .i64 x.mov, .int .i64 x.clo] 65 :: h' :: hn :: hw :: L)) =>
            indexFunc_bucket 120 #[.pointer (some ⟨wr.heap.size, 0, none⟩)] eg (isB x.cls x.yr) A ca xs ho W (EW.at_mem (by simp [hko])) sx
              (fun y W' hW => chgSame_calls y wr.heap.size x.cls x.yr W' ((EW.below hW).cell 1 rfl 0 rfl) ((EW.below hW).cell 1 rfl 1 rfl))
          obtain ⟨bx, ox, rfl, c1, c2, c3, c4, c5⟩ := ow.sl.way (E.sub 3 rfl) hx
          have hold := oldX_cases xs rs x n hll
          generalize idx (isB x.cls x.yr) xs = ii at *
          go_upto_region 16 with fail
          obtain ⟨W3, hW3⟩ : ∃ W3, W3 = wr.alloc (.cells #[.int .i64 x.cls, .int .i64 x.yr, .int .i64 x.opn, .int .i64 x.mov, .int .i64 x.clo] 65) := ⟨_, rfl⟩
          rw [← hW3] at E2
          rw [← hW3]
          clear hW3 c1 c2 c3 c4 c5 E
          have z0 := E2.cell 0 rfl 10 rfl
          go_wp2_with fail
          refine (IC _ E2).mono ?_
          rintro e w8 ⟨rfl, B8⟩
          have E8 := E2.below B8
          clear z0 E2 IC
          have z1 := E8.cell 0 rfl 11 rfl
          rcases hold with ⟨hi, hv⟩ | ⟨k, r, hi, hr', hv⟩
          · have HS2 : Hid (cur = List.zipWith (oldX xs rs) (ws.take (q + 1)) (rl.take (q + 1)) ++ rl.drop (q + 1)) := by unfold Hid; rw [← HS.out, hv, set_self HG.out]
            subst hi
            clear hv
            have E9 := E8.drop 1
            simp at E9
            go_wp2
            go_roundw
            case rel => exact ⟨q + 1, h', cur, by omega, by go_num, hm2, HS2, o, E9⟩
            case measure => simp [intOf]; omega
          · subst hi
            rw [hv] at HS
            clear hv
            have hkl : k < rs.length := (List.getElem?_eq_some_iff.1 hr').1
            have k1 : (0 : Int) ≤ (k : Int) := by omega
            have k2 : (k : Int) < (rs.length : Int) := by omega
            have hsl := ss.small
            obtain ⟨bb, ob, rfl, d1⟩ := ss.int (E8.at_mem (by simp [hks])) (Lib.hid hr')
            obtain ⟨bd, oo, e2, d2⟩ := o.sl.int (E8.sub 2 rfl) HG
            subst e2
            have df := fun m => o.cell_free (E8.sub 2 rfl) (by rw [hm2.out, L1.out]; omega) m
            obtain ⟨h3, o3, u3⟩ := Ow.set (x' := r) (v := .int .i64 r) (j := 0) o (E8.sub 2 rfl) HG.out (by decide) rfl
            rw [Nat.mul_one, Nat.add_zero] at u3
            have E9 := (E8.upd 2 rfl u3).drop 1
            simp at E9
            go_wp2
            go_roundw
            case rel => exact ⟨q + 1, h3, cur.set q r, by omega, by go_num, by unfold Hid; rw [List.length_set, hm2.out], HS, o3, E9⟩
            case measure => simp [intOf]; omega
        · obtain rfl : q = ws.length := by omega
          have HC : Hid (cur = wz) := by unfold Hid; rw [hc2.out, HW.out, List.take_length, List.take_of_length_le (by rw [L1.out]; omega), List.drop_of_length_le (by rw [L1.out]; omega), List.append_nil]
          obtain rfl := HC.out
          have z0 := E.cell 0 rfl 10 rfl
          have z1 := E.cell 0 rfl 18 rfl
          generalize remE ws cur rl = rE at *
          generalize hrM : remMo ws cur rl = rM at *
          generalize hrR : remRa ws cur rl = rR at *
          go_upto_region 20 with fail
          refine wp_region_held_drew (S := (fun V => V.cell? ⟨bp, 10, none⟩ = some (.slice A xs.length ca) ∧ V.cell? ⟨bp, 18, none⟩ = some (.slice R rows.length cr))) (by kernel_rfl) ?_ (fun hHeld => ?_)
          · (try dsimp only)
            first | (go_keep)
          refine take_on (i := 0) (by (simp only [List.getElem?_toArray, List.getElem?_cons_succ, List.getElem?_cons_zero]) <;> rfl) (by kernel_rfl) (by kernel_rfl) (by kernel_rfl) (by intro _ _ _ _ h; exact h) (by rfl) (by assumption) ?_
          apply Exists.intro
          refine ⟨?_, ?_⟩
          · intro W0 hSw
            try dsimp only at hSw
            go_simp
            try (with_reducible rfl)
          try simp only [Act.put, List.setIfInBounds_toArray, List.set_cons_zero, List.set_cons_succ]
          refine take_on (i := 1) (by (simp only [List.getElem?_toArray, List.getElem?_cons_succ, List.getElem?_cons_zero]) <;> rfl) (by kernel_rfl) (by kernel_rfl) (by kernel_rfl) (by intro _ _ _ _ h; exact h) (by rfl) (by assumption) ?_
          apply Exists.intro
          refine ⟨?_, ?_⟩
          · intro W0 hSw
            try dsimp only at hSw
            go_simp
            try (with_reducible rfl)
          try simp only [Act.put, List.setIfInBounds_toArray, List.set_cons_zero, List.set_cons_succ]
          refine take_on (i := 2) (by (simp only [List.getElem?_toArray, List.getElem?_cons_succ, List.getElem?_cons_zero]) <;> rfl) (by kernel_rfl) (by kernel_rfl) (by kernel_rfl) (by intro _ _ _ _ h; exact h) (by rfl) (by assumption) ?_
          apply Exists.intro
          refine ⟨?_, ?_⟩
          · intro W0 hSw
            try dsimp only at hSw
            go_simp
            try (with_reducible rfl)
          try simp only [Act.put, List.setIfInBounds_toArray, List.set_cons_zero, List.set_cons_succ]
          refine take_on (i := 3) (by (simp only [List.getElem?_toArray, List.getElem?_cons_succ, List.getElem?_cons_zero]) <;> rfl) (by kernel_rfl) (by kernel_rfl) (by kernel_rfl) (by intro _ _ _ _ h; exact h) (by rfl) (by assumption) ?_
          apply Exists.intro
          refine ⟨?_, ?_⟩
          · intro W0 hSw
            try dsimp only at hSw
            go_simp
            try (with_reducible rfl)
          try simp only [Act.put, List.setIfInBounds_toArray, List.set_cons_zero, List.set_cons_succ]
          refine take_on (i := 4) (by (simp only [List.getElem?_toArray, List.getElem?_cons_succ, List.getElem?_cons_zero]) <;> rfl) (by kernel_rfl) (by kernel_rfl) (by kernel_rfl) (by intro _ _ _ _ h; exact h) (by rfl) (by assumption) ?_
          apply Exists.intro
          refine ⟨?_, ?_⟩
          · intro W0 hSw
            try dsimp only at hSw
            go_simp
            try (with_reducible rfl)
          try simp only [Act.put, List.setIfInBounds_toArray, List.set_cons_zero, List.set_cons_succ]
          refine take_on (i := 5) (by (simp only [List.getElem?_toArray, List.getElem?_cons_succ, List.getElem?_cons_zero]) <;> rfl) (by kernel_rfl) (by kernel_rfl) (by kernel_rfl) (by intro _ _ _ _ h; exact h) (by rfl) (by assumption) ?_
          apply Exists.intro
          refine ⟨?_, ?_⟩
          · intro W0 hSw
            try dsimp only at hSw
            go_simp
            try (with_reducible rfl)
          try simp only [Act.put, List.setIfInBounds_toArray, List.set_cons_zero, List.set_cons_succ]
          refine take_on (i := 6) (by (simp only [List.getElem?_toArray, List.getElem?_cons_succ, List.getElem?_cons_zero]) <;> rfl) (by kernel_rfl) (by kernel_rfl) (by kernel_rfl) (by intro _ _ _ _ h; exact h) (by rfl) (by assumption) ?_
          apply Exists.intro
          refine ⟨?_, ?_⟩
          · intro W0 hSw
            try dsimp only at hSw
            go_simp
            try (with_reducible rfl)
          try simp only [Act.put, List.setIfInBounds_toArray, List.set_cons_zero, List.set_cons_succ]
          refine take_on (i := 7) (by (simp only [List.getElem?_toArray, List.getElem?_cons_succ, List.getElem?_cons_zero]) <;> rfl) (by kernel_rfl) (by kernel_rfl) (by kernel_rfl) (by intro _ _ _ _ h; exact h) (by rfl) (by assumption) ?_
          apply Exists.intro
          refine ⟨?_, ?_⟩
          · intro W0 hSw
            try dsimp only at hSw
            go_simp
            try (with_reducible rfl)
          try simp only [Act.put, List.setIfInBounds_toArray, List.set_cons_zero, List.set_cons_succ]
          refine take_on (i := 8) (by (simp only [List.getElem?_toArray, List.getElem?_cons_succ, List.getElem?_cons_zero]) <;> rfl) (by kernel_rfl) (by kernel_rfl) (by kernel_rfl) (by intro _ _ _ _ h; exact h) (by rfl) (by assumption) ?_
          apply Exists.intro
          refine ⟨?_, ?_⟩
          · intro W0 hSw
            try dsimp only at hSw
            go_simp
            try (with_reducible rfl)
          try simp only [Act.put, List.setIfInBounds_toArray, List.set_cons_zero, List.set_cons_succ]
          refine take_on (i := 9) (by (simp only [List.getElem?_toArray, List.getElem?_cons_succ, List.getElem?_cons_zero]) <;> rfl) (by kernel_rfl) (by kernel_rfl) (by kernel_rfl) (by intro _ _ _ _ h; exact h) (by rfl) (by assumption) ?_
          apply Exists.intro
          refine ⟨?_, ?_⟩
          · intro W0 hSw
            try dsimp only at hSw
            go_simp
            try (with_reducible rfl)
          try simp only [Act.put, List.setIfInBounds_toArray, List.set_cons_zero, List.set_cons_succ]
          refine take_on (i := 10) (by (simp only [List.getElem?_toArray, List.getElem?_cons_succ, List.getElem?_cons_zero]) <;> rfl) (by kernel_rfl) (by kernel_rfl) (by kernel_rfl) (by intro _ _ _ _ h; exact h) (by rfl) (by assumption) ?_
          apply Exists.intro
          refine ⟨?_, ?_⟩
          · intro W0 hSw
            try dsimp only at hSw
            go_simp
            try (with_reducible rfl)
          try simp only [Act.put, List.setIfInBounds_toArray, List.set_cons_zero, List.set_cons_succ]
          refine take_on (i := 11) (by (simp only [List.getElem?_toArray, List.getElem?_cons_succ, List.getElem?_cons_zero]) <;> rfl) (by kernel_rfl) (by kernel_rfl) (by kernel_rfl) (by intro _ _ _ _ h; exact h) (by rfl) (by assumption) ?_
          apply Exists.intro
          refine ⟨?_, ?_⟩
          · intro W0 hSw
            try dsimp only at hSw
            go_simp
            try (with_reducible rfl)
          try simp only [Act.put, List.setIfInBounds_toArray, List.set_cons_zero, List.set_cons_succ]
          refine take_on (i := 12) (by (simp only [List.getElem?_toArray, List.getElem?_cons_succ, List.getElem?_cons_zero]) <;> rfl) (by kernel_rfl) (by kernel_rfl) (by kernel_rfl) (by intro _ _ _ _ h; exact h) (by rfl) (by assumption) ?_
          apply Exists.intro
          refine ⟨?_, ?_⟩
          · intro W0 hSw
            try dsimp only at hSw
            go_simp
            try (with_reducible rfl)
          try simp only [Act.put, List.setIfInBounds_toArray, List.set_cons_zero, List.set_cons_succ]
          refine wpAnyH_ready (rs := [13]) (by kernel_rfl) (by simp) ?_
          refine AllReadyH.cons (by (simp only [List.getElem?_toArray, List.getElem?_cons_succ, List.getElem?_cons_zero]) <;> rfl) (fun K hK => ?_) AllReadyH.nil
          go_simp
          refine (TC _ D2 N cd cn h' hn (Env.at_mem (by repeat (first | (with_reducible exact E) | (with_reducible apply Env.drew) | (with_reducible apply Env.drewN) | (with_reducible apply Env.alloc'))) (by simp [hko])) (Env.at_mem (by repeat (first | (with_reducible exact E) | (with_reducible apply Env.drew) | (with_reducible apply Env.drewN) | (with_reducible apply Env.alloc'))) (by simp [hkr])) (Env.at_mem (by repeat (first | (with_reducible exact E) | (with_reducible apply Env.drew) | (with_reducible apply Env.drewN) | (with_reducible apply Env.alloc'))) (by simp)) (Env.at_mem (by repeat (first | (with_reducible exact E) | (with_reducible apply Env.drew) | (with_reducible apply Env.drewN) | (with_reducible apply Env.alloc'))) (by simp)) o.sl on.sl).mono ?_
          rintro e w9 ⟨rfl, B9⟩
          have E9 := E.drew.below B9
          have hkeep := And.intro (E9.cell 0 rfl 10 rfl) (E9.cell 0 rfl 18 rfl)
          go_wp2_with fail
          refine hK.out _ _ ?_ (fun hHeld => ?_)
          · (try dsimp only)
            first | (exact hkeep) | (go_keep)
          clear hK K
          try simp only [Act.put, List.setIfInBounds_toArray, List.set_cons_zero, List.set_cons_succ]
          refine take_on (i := 14) (by (simp only [List.getElem?_toArray, List.getElem?_cons_succ, List.getElem?_cons_zero]) <;> rfl) (by kernel_rfl) (by kernel_rfl) (by kernel_rfl) (by intro _ _ _ _ h; exact h) (by rfl) (by assumption) ?_
          apply Exists.intro
          refine ⟨?_, ?_⟩
          · intro W0 hSw
            try dsimp only at hSw
            go_simp
            try (with_reducible rfl)
          try simp only [Act.put, List.setIfInBounds_toArray, List.set_cons_zero, List.set_cons_succ]
          refine take_on (i := 15) (by (simp only [List.getElem?_toArray, List.getElem?_cons_succ, List.getElem?_cons_zero]) <;> rfl) (by kernel_rfl) (by kernel_rfl) (by kernel_rfl) (by intro _ _ _ _ h; exact h) (by rfl) (by assumption) ?_
          apply Exists.intro
          refine ⟨?_, ?_⟩
          · intro W0 hSw
            try dsimp only at hSw
            go_simp
            try (with_reducible rfl)
          try simp only [Act.put, List.setIfInBounds_toArray, List.set_cons_zero, List.set_cons_succ]
          refine take_on (i := 16) (by (simp only [List.getElem?_toArray, List.getElem?_cons_succ, List.getElem?_cons_zero]) <;> rfl) (by kernel_rfl) (by kernel_rfl) (by kernel_rfl) (by intro _ _ _ _ h; exact h) (by rfl) (by assumption) ?_
          apply Exists.intro
          refine ⟨?_, ?_⟩
          · intro W0 hSw
            try dsimp only at hSw
            go_simp
            try (with_reducible rfl)
          try simp only [Act.put, List.setIfInBounds_toArray, List.set_cons_zero, List.set_cons_succ]
          refine take_on (i := 17) (by (simp only [List.getElem?_toArray, List.getElem?_cons_succ, List.getElem?_cons_zero]) <;> rfl) (by kernel_rfl) (by kernel_rfl) (by kernel_rfl) (by intro _ _ _ _ h; exact h) (by rfl) (by assumption) ?_
          apply Exists.intro
          refine ⟨?_, ?_⟩
          · intro W0 hSw
            try dsimp only at hSw
            go_simp
            try (with_reducible rfl)
          try simp only [Act.put, List.setIfInBounds_toArray, List.set_cons_zero, List.set_cons_succ]
          refine take_on (i := 18) (by (simp only [List.getElem?_toArray, List.getElem?_cons_succ, List.getElem?_cons_zero]) <;> rfl) (by kernel_rfl) (by kernel_rfl) (by kernel_rfl) (by intro _ _ _ _ h; exact h) (by rfl) (by assumption) ?_
          apply Exists.intro
          refine ⟨?_, ?_⟩
          · intro W0 hSw
            try dsimp only at hSw
            go_simp
            try (with_reducible rfl)
          try simp only [Act.put, List.setIfInBounds_toArray, List.set_cons_zero, List.set_cons_succ]
          refine wpAnyH_ready (rs := [19]) (by kernel_rfl) (by simp) ?_
          refine AllReadyH.cons (by (simp only [List.getElem?_toArray, List.getElem?_cons_succ, List.getElem?_cons_zero]) <;> rfl) (fun K hK => ?_) AllReadyH.nil
          refine wp_store_mid 42 _ _ rfl bp 34 _ rfl rfl (E9.thereMid 0 rfl 34 2 (by simp)) (by kernel_rfl) (by simp [Value.oneCell']) ?_
          have EM := E9.setMid 0 rfl 34 [.int .i64 rM, .int .i64 rR] (by simp)
          simp at EM
          have hkeep := And.intro (EM.cell 0 rfl 10 rfl) (EM.cell 0 rfl 18 rfl)
          refine hK.out _ _ ?_ (fun hHeld => ?_)
          · (try dsimp only)
            first | (exact hkeep) | (go_keep)
          clear hK K
          try simp only [Act.put, List.setIfInBounds_toArray, List.set_cons_zero, List.set_cons_succ]
          refine take_on (i := 20) (by (simp only [List.getElem?_toArray, List.getElem?_cons_succ, List.getElem?_cons_zero]) <;> rfl) (by kernel_rfl) (by kernel_rfl) (by kernel_rfl) (by intro _ _ _ _ h; exact h) (by rfl) (by assumption) ?_
          apply Exists.intro
          refine ⟨?_, ?_⟩
          · intro W0 hSw
            try dsimp only at hSw
            go_simp
            try (with_reducible rfl)
          try simp only [Act.put, List.setIfInBounds_toArray, List.set_cons_zero, List.set_cons_succ]
          refine wpAnyH_done (by kernel_rfl) ?_ _
          have EN := EM.drop 1
          simp at EN
          have EL := ((EN.drop 0).drop 0).drop 0
          simp at EL
          clear hHeld hkeep z0 z1 E E9 EM
          go_wp2
          go_ret
          rcases Int.decEq rE 0 with h0 | h0
          · exact .no HK2.out h0 EL
          · subst h0
            exact .inr ⟨HK2.out, rfl, C, cw, hw, N, cn, hn, by rw [hws]; exact ow, by rw [hnw]; exact on, by rw [hws, hnw, hwz, hrM, hrR]; exact EN⟩
end Go.Proofs.YtnfedcaehkcffaaGreat
end
