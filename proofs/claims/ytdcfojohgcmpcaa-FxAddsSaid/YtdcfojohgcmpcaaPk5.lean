/- Walks and plain facts that the laws of this seat share, part 5: contracts of functions, each said at its theorem. -/
import Derived.Test.YtdcfojohgcmpcaaPk4
import Derived.Laws.MakeOwn
import Derived.Laws.OwnMore
import Derived.Deep.DeepCutAuto
import Derived.Deep.CutBlock
import Derived.BigQuiet
set_option linter.all false
section
/- The walk of law25.FxErrors. -/
namespace Go.Sl
open Go Go.RowKit
/-- Items of nothing, as make lays them. -/
def zer (n : Nat) : Array Value := ((List.replicate n (⟨0, 0⟩ : SItem)).flatMap SItem.cells).toArray
theorem zer_eq (n : Nat) (h : n = 20 ∨ n = 21) : madeCells #[.int .i64 0, .int .i64 0] (n * 2) = zer n := by
  rcases h with rfl | rfl
  · kernel_rfl
  · kernel_rfl
def erF (b1 : Nat) (N : Int) (TI T38 : TypeId) (k : Nat) (v : Value) (V : World) : Prop := match k with
  | 0 => v = .slice (some ⟨b1, 0, none⟩) 1 1
  | 1 => v = .agg #[.slice (some ⟨b1, 0, none⟩) 1 1, .int .i64 0, .int .i64 1]
  | 2 => v = .slice (some ⟨b1, 0, none⟩) 1 1
  | 3 => v = .int .i64 N
  | 4 => v = .int .i64 (-N)
  | 5 => v = .agg #[.slice (some ⟨b1, 0, none⟩) 1 1, .int .i64 (-N), .int .i64 1]
  | 6 => v = .slice (some ⟨b1, 0, none⟩) 1 1
  | 7 => v = .agg #[.slice (some ⟨b1, 0, none⟩) 1 1, .int .i64 10000001, .int .i64 1]
  | 8 => ∃ b, v = .slice (some ⟨b, 0, none⟩) 21 21 ∧ V.heap[b]? = some (.cells (zer 21) TI (0, 0))
  | 9 => ∃ b, v = .agg #[.slice (some ⟨b, 0, none⟩) 21 21, .int .i64 1, .int .i64 1] ∧ V.heap[b]? = some (.cells (zer 21) TI (0, 0))
  | 10 => v = .int .i64 N
  | 11 => v = .int .i64 (400000000000 + N)
  | 12 => v = .agg #[.int .i64 0, .int .i64 (400000000000 + N)]
  | 13 => ∃ b, v = .slice (some ⟨b, 0, none⟩) 1 1 ∧ V.heap[b]? = some (.cells #[.int .i64 0, .int .i64 (400000000000 + N)] TI (0, 0))
  | 14 => ∃ b, v = .agg #[.slice (some ⟨b, 0, none⟩) 1 1, .int .i64 1, .int .i64 1] ∧ V.heap[b]? = some (.cells #[.int .i64 0, .int .i64 (400000000000 + N)] TI (0, 0))
  | 15 => v = .agg #[.int .i64 0, .int .i64 400000000000]
  | 16 => v = .int .i64 N
  | 17 => v = .agg #[.int .i64 0, .int .i64 N]
  | 18 => ∃ b, v = .slice (some ⟨b, 0, none⟩) 2 2 ∧ V.heap[b]? = some (.cells #[.int .i64 0, .int .i64 400000000000, .int .i64 0, .int .i64 N] TI (0, 0))
  | 19 => ∃ b, v = .agg #[.slice (some ⟨b, 0, none⟩) 2 2, .int .i64 1, .int .i64 1] ∧ V.heap[b]? = some (.cells #[.int .i64 0, .int .i64 400000000000, .int .i64 0, .int .i64 N] TI (0, 0))
  | 20 => v = .agg #[.int .i64 0, .int .i64 (-400000000000)]
  | 21 => v = .int .i64 N
  | 22 => v = .int .i64 (-N)
  | 23 => v = .agg #[.int .i64 0, .int .i64 (-N)]
  | 24 => ∃ b, v = .slice (some ⟨b, 0, none⟩) 2 2 ∧ V.heap[b]? = some (.cells #[.int .i64 0, .int .i64 (-400000000000), .int .i64 0, .int .i64 (-N)] TI (0, 0))
  | 25 => ∃ b, v = .agg #[.slice (some ⟨b, 0, none⟩) 2 2, .int .i64 1, .int .i64 1] ∧ V.heap[b]? = some (.cells #[.int .i64 0, .int .i64 (-400000000000), .int .i64 0, .int .i64 (-N)] TI (0, 0))
  | 26 => v = .agg #[.int .i64 0, .int .i64 400000000000]
  | 27 => v = .int .i64 N
  | 28 => v = .agg #[.int .i64 0, .int .i64 N]
  | 29 => v = .int .i64 N
  | 30 => v = .int .i64 (-N)
  | 31 => v = .agg #[.int .i64 0, .int .i64 (-N)]
  | 32 => ∃ b, v = .slice (some ⟨b, 0, none⟩) 3 3 ∧ V.heap[b]? = some (.cells #[.int .i64 0, .int .i64 400000000000, .int .i64 0, .int .i64 N, .int .i64 0, .int .i64 (-N)] TI (0, 0))
  | 33 => ∃ b, v = .agg #[.slice (some ⟨b, 0, none⟩) 3 3, .int .i64 10000000, .int .i64 0] ∧ V.heap[b]? = some (.cells #[.int .i64 0, .int .i64 400000000000, .int .i64 0, .int .i64 N, .int .i64 0, .int .i64 (-N)] TI (0, 0))
  | 34 => ∃ b, v = .slice (some ⟨b, 0, none⟩) 20 20 ∧ V.heap[b]? = some (.cells (zer 20) TI (0, 0))
  | 35 => ∃ b, v = .agg #[.slice (some ⟨b, 0, none⟩) 20 20, .int .i64 1, .int .i64 0] ∧ V.heap[b]? = some (.cells (zer 20) TI (0, 0))
  | 36 => v = .agg #[.slice none 0 0, .int .i64 5, .int .i64 0]
  | 37 => ∃ b c8 c13 c18 c24 c32 c34, v = .slice (some ⟨b, 0, none⟩) 10 10 ∧ V.heap[b]? = some (.cells #[.slice (some ⟨b1, 0, none⟩) 1 1, .int .i64 0, .int .i64 1, .slice (some ⟨b1, 0, none⟩) 1 1, .int .i64 (-N), .int .i64 1, .slice (some ⟨b1, 0, none⟩) 1 1, .int .i64 10000001, .int .i64 1, .slice (some ⟨c8, 0, none⟩) 21 21, .int .i64 1, .int .i64 1, .slice (some ⟨c13, 0, none⟩) 1 1, .int .i64 1, .int .i64 1, .slice (some ⟨c18, 0, none⟩) 2 2, .int .i64 1, .int .i64 1, .slice (some ⟨c24, 0, none⟩) 2 2, .int .i64 1, .int .i64 1, .slice (some ⟨c32, 0, none⟩) 3 3, .int .i64 10000000, .int .i64 0, .slice (some ⟨c34, 0, none⟩) 20 20, .int .i64 1, .int .i64 0, .slice none 0 0, .int .i64 5, .int .i64 0] T38 (0, 0)) ∧ V.heap[c8]? = some (.cells (zer 21) TI (0, 0)) ∧ V.heap[c13]? = some (.cells #[.int .i64 0, .int .i64 (400000000000 + N)] TI (0, 0)) ∧ V.heap[c18]? = some (.cells #[.int .i64 0, .int .i64 400000000000, .int .i64 0, .int .i64 N] TI (0, 0)) ∧ V.heap[c24]? = some (.cells #[.int .i64 0, .int .i64 (-400000000000), .int .i64 0, .int .i64 (-N)] TI (0, 0)) ∧ V.heap[c32]? = some (.cells #[.int .i64 0, .int .i64 400000000000, .int .i64 0, .int .i64 N, .int .i64 0, .int .i64 (-N)] TI (0, 0)) ∧ V.heap[c34]? = some (.cells (zer 20) TI (0, 0))
  | 38 => v = .int .i64 10
  | 39 => v = .int .i64 0
  | _ => True
theorem erF_below {b1 : Nat} {N : Int} {TI T38 : TypeId} {k : Nat} {v : Value} {V V' : World} (B : Below V.heap.size V V') (h : erF b1 N TI T38 k v V) : erF b1 N TI T38 k v V' := by
  have kp : ∀ b o, V.heap[b]? = some o → V'.heap[b]? = some o := fun b o e => (B.block b (Array.getElem?_eq_some_iff.1 e).1).trans e
  match k, h with
  | 0, h => exact h
  | 1, h => exact h
  | 2, h => exact h
  | 3, h => exact h
  | 4, h => exact h
  | 5, h => exact h
  | 6, h => exact h
  | 7, h => exact h
  | 8, h => obtain ⟨b, h1, h2⟩ := h; exact ⟨b, h1, kp _ _ h2⟩
  | 9, h => obtain ⟨b, h1, h2⟩ := h; exact ⟨b, h1, kp _ _ h2⟩
  | 10, h => exact h
  | 11, h => exact h
  | 12, h => exact h
  | 13, h => obtain ⟨b, h1, h2⟩ := h; exact ⟨b, h1, kp _ _ h2⟩
  | 14, h => obtain ⟨b, h1, h2⟩ := h; exact ⟨b, h1, kp _ _ h2⟩
  | 15, h => exact h
  | 16, h => exact h
  | 17, h => exact h
  | 18, h => obtain ⟨b, h1, h2⟩ := h; exact ⟨b, h1, kp _ _ h2⟩
  | 19, h => obtain ⟨b, h1, h2⟩ := h; exact ⟨b, h1, kp _ _ h2⟩
  | 20, h => exact h
  | 21, h => exact h
  | 22, h => exact h
  | 23, h => exact h
  | 24, h => obtain ⟨b, h1, h2⟩ := h; exact ⟨b, h1, kp _ _ h2⟩
  | 25, h => obtain ⟨b, h1, h2⟩ := h; exact ⟨b, h1, kp _ _ h2⟩
  | 26, h => exact h
  | 27, h => exact h
  | 28, h => exact h
  | 29, h => exact h
  | 30, h => exact h
  | 31, h => exact h
  | 32, h => obtain ⟨b, h1, h2⟩ := h; exact ⟨b, h1, kp _ _ h2⟩
  | 33, h => obtain ⟨b, h1, h2⟩ := h; exact ⟨b, h1, kp _ _ h2⟩
  | 34, h => obtain ⟨b, h1, h2⟩ := h; exact ⟨b, h1, kp _ _ h2⟩
  | 35, h => obtain ⟨b, h1, h2⟩ := h; exact ⟨b, h1, kp _ _ h2⟩
  | 36, h => exact h
  | 37, h => obtain ⟨b, c8, c13, c18, c24, c32, c34, h1, h2, h3, h4, h5, h6, h7, h8⟩ := h; exact ⟨b, c8, c13, c18, c24, c32, c34, h1, kp _ _ h2, kp _ _ h3, kp _ _ h4, kp _ _ h5, kp _ _ h6, kp _ _ h7, kp _ _ h8⟩
  | 38, h => exact h
  | 39, h => exact h
  | k + 40, h => trivial
/-- A row of the law's table. -/
structure SFx where
  l : List SItem
  fx : Int
  e : Int
def kFx : Kd SFx where
  size := 3
  K h x cs := ∃ A cap, cs = [.slice A x.l.length cap, .int .i64 x.fx, .int .i64 x.e] ∧ Sl kItem h A cap x.l
  pos := by decide
  len := by rintro h x cs ⟨A, cap, rfl, _⟩; rfl
  one := by rintro h x cs ⟨A, cap, rfl, _⟩ u hu; simp at hu; rcases hu with rfl | rfl | rfl <;> rfl
  mono := by rintro h h' x cs ⟨A, cap, e, s⟩ l; exact ⟨A, cap, e, s.mono l⟩
theorem Sl.fx {h : Hp} {A : Option Addr} {cap : Nat} {xs : List SFx} {w : World} (s : Sl kFx h A cap xs) (hs : h.sub w) {i : Nat} {x : SFx} (hx : Hid (xs[i]? = some x)) :
    ∃ b off B cb, A = some ⟨b, off, .none⟩ ∧ Sl kItem h B cb x.l ∧ w.cell? ⟨b, off + i * 3, .none⟩ = some (.slice B x.l.length cb) ∧ w.cell? ⟨b, off + i * 3 + 1, .none⟩ = some (.int .i64 x.fx) ∧ w.cell? ⟨b, off + i * 3 + 2, .none⟩ = some (.int .i64 x.e) := by
  obtain ⟨b, off, cs, e, ⟨B, cb, rfl, su⟩, _, hc⟩ := s.at hs hx.out
  exact ⟨b, off, B, cb, e, su, by simpa [kFx] using hc 0 _ rfl, hc 1 _ rfl, hc 2 _ rfl⟩
def fxRows (N : Int) : List SFx := [⟨[⟨1, N⟩], 0, 1⟩, ⟨[⟨1, N⟩], -N, 1⟩, ⟨[⟨1, N⟩], 10000001, 1⟩, ⟨List.replicate 21 ⟨0, 0⟩, 1, 1⟩, ⟨[⟨0, 400000000000 + N⟩], 1, 1⟩, ⟨[⟨0, 400000000000⟩, ⟨0, N⟩], 1, 1⟩, ⟨[⟨0, -400000000000⟩, ⟨0, -N⟩], 1, 1⟩, ⟨[⟨0, 400000000000⟩, ⟨0, N⟩, ⟨0, -N⟩], 10000000, 0⟩, ⟨List.replicate 20 ⟨0, 0⟩, 1, 0⟩, ⟨[], 5, 0⟩]
theorem fxRows_ok {N : Int} (h : 1 ≤ N ∧ N ≤ 1000) : ∀ x ∈ fxRows N, (x.e = 0 ∧ convOk x.l x.fx = true) ∨ (x.e = 1 ∧ convOk x.l x.fx = false) := by
  intro x hx
  have z1 : ∀ n : Nat, ((List.replicate n (⟨0, 0⟩ : SItem)).all fun x => nearB x.amt) = true := fun n => by
    rw [List.all_eq_true]; intro y hy; rw [(List.mem_replicate.1 hy).2]; rfl
  have z2 : nearB (sumAmt (List.replicate 20 (⟨0, 0⟩ : SItem))) = true := by decide
  simp only [fxRows, List.mem_cons, List.not_mem_nil, or_false] at hx
  rcases hx with rfl | rfl | rfl | rfl | rfl | rfl | rfl | rfl | rfl | rfl
  · exact .inr ⟨rfl, by simp [convOk]⟩
  · exact .inr ⟨rfl, by simp [convOk]; omega⟩
  · exact .inr ⟨rfl, by simp [convOk]⟩
  · exact .inr ⟨rfl, by simp [convOk]⟩
  · exact .inr ⟨rfl, by simp [convOk, nearB, sumAmt]; omega⟩
  · exact .inr ⟨rfl, by simp [convOk, nearB, sumAmt]; omega⟩
  · exact .inr ⟨rfl, by simp [convOk, nearB, sumAmt]; omega⟩
  · exact .inl ⟨rfl, by simp [convOk, nearB, sumAmt]; omega⟩
  · exact .inl ⟨rfl, by simp only [convOk, z1, z2]; simp⟩
  · exact .inl ⟨rfl, by simp [convOk, nearB, sumAmt]⟩
end Go.Sl
namespace Go.Proofs.Ytdcfojohgcmpcaa
open Go.RowKit Go.Sl
set_option maxHeartbeats 4000000
set_option maxRecDepth 100000
theorem make_items (n : Nat) (h : n = 20 ∨ n = 21) (W : World) : (Instr.makeSlice 37 (.int .i64 (n : Int)) (.int .i64 (n : Int))).run Try.prog W = .ok (.slice (some ⟨W.heap.size, 0, none⟩) n n) (W.alloc (.cells (zer n) 36)) := by
  obtain ⟨i0, hi, hz0, hz1, hz2⟩ := info_parts info_item
  have h' := run_make (P := Try.prog) W 37 36 i0 (.agg #[.int .i64 0, .int .i64 0]) Try.underlying37 hi hz0 .i64 .i64 n n (by omega) (Int.le_refl _) (by rw [hz2]; omega) (by omega)
  rw [hz1] at h'
  simp only [Int.toNat_natCast] at h'
  rw [show (Value.agg #[.int .i64 0, .int .i64 0]).cells = #[.int .i64 0, .int .i64 0] from rfl] at h'
  rw [zer_eq n h] at h'
  exact h'
theorem fxErrors_calls (n0 : Int) (w : World) : Calls Try.prog 4 #[.int .i64 n0] w fun e w' => e = .returned (.bool true) ∧ Below w.heap.size w w' := by
  have CW := fun W : World => within_calls n0 1000 W (by omega) (by omega)
  have r1 := within_lo n0 (n := 1000) (by omega)
  have r2 := within_hi n0 (n := 1000) (by omega)
  generalize within n0 1000 = m at *
  obtain ⟨N, hN⟩ : ∃ N, 1 + m = N := ⟨_, rfl⟩
  have hNb : 1 ≤ N ∧ N ≤ 1000 := by omega
  have RO := Lib.hid (fxRows_ok hNb)
  obtain ⟨N1, N2⟩ := hNb
  go_enter Try.func4, Try.ntmps4
  go_wp2_with fail
  refine (CW _).mono ?_
  rintro e w' ⟨rfl, rfl⟩
  go_upto_region 2 with fail
  clear hN r1 r2 CW
  go_upto_region 3 with fail
  have EB := (Env.start w).alloc' (.cells #[.int .i64 1, .int .i64 N] 36)
  have hone : (w.alloc (.cells #[.int .i64 1, .int .i64 N] 36)).heap[w.heap.size]? = some (.cells #[.int .i64 1, .int .i64 N] 36 (0, 0)) := heap_new_at rfl
  have hB0 := EB.low
  have hW1 : w.heap.size ≤ (w.alloc (.cells #[.int .i64 1, .int .i64 N] 36)).heap.size := hB0.size
  clear EB
  generalize w.alloc (.cells #[.int .i64 1, .int .i64 N] 36) = W1 at *
  generalize hb1 : w.heap.size = b1 at *
  have HB1 := Lib.hid hb1
  clear hb1
  have mk21 := make_items 21 (.inr rfl)
  have mk20 := make_items 20 (.inl rfl)
  rw [show ((21 : Nat) : Int) = 21 from rfl] at mk21
  rw [show ((20 : Nat) : Int) = 20 from rfl] at mk20
  refine wp_region_facts (F := erF b1 N 36 38) (G := fun V => Below W1.heap.size W1 V) (by kernel_rfl) (by kernel_rfl) (by kernel_rfl) ((Below.refl _ _).drew) ?_ ?_
  · intro i o ho a V g kp hd
    have B0 := Below.refl V.heap.size V
    match i, ho with
    | 0, ho =>
      simp at ho
      subst ho
      have h3 : a.tmps[3]?.getD undef = .slice (some ⟨b1, 0, none⟩) 1 1 := (kp.at (t := 3) (by kernel_rfl)).trans rfl
      refine wpOp_step (o := _) rfl ?_
      intro K' hK'
      rw [if_pos (by rfl)]
      go_simp
      exact hK' _ _ ⟨_, rfl, fun _ => rfl, g, fun k v h => h⟩
    | 1, ho =>
      simp at ho
      subst ho
      have h15 : a.tmps[15]?.getD undef = .slice (some ⟨b1, 0, none⟩) 1 1 := (eval_tmp a 15).symm.trans (hd ⟨0, .data⟩ (by simp) rfl _ _ rfl rfl)
      refine wpOp_step (o := _) rfl ?_
      intro K' hK'
      rw [if_pos (by rfl)]
      go_simp
      exact hK' _ _ ⟨_, rfl, fun _ => rfl, g, fun k v h => h⟩
    | 2, ho =>
      simp at ho
      subst ho
      have h3 : a.tmps[3]?.getD undef = .slice (some ⟨b1, 0, none⟩) 1 1 := (kp.at (t := 3) (by kernel_rfl)).trans rfl
      refine wpOp_step (o := _) rfl ?_
      intro K' hK'
      rw [if_pos (by rfl)]
      go_simp
      exact hK' _ _ ⟨_, rfl, fun _ => rfl, g, fun k v h => h⟩
    | 3, ho =>
      simp at ho
      subst ho
      have h0 : a.tmps[0]?.getD undef = .int .i64 N := (kp.at (t := 0) (by kernel_rfl)).trans rfl
      refine wpOp_step (o := _) rfl ?_
      intro K' hK'
      rw [if_pos (by rfl)]
      go_simp
      exact hK' _ _ ⟨_, rfl, fun _ => rfl, g, fun k v h => h⟩
    | 4, ho =>
      simp at ho
      subst ho
      have h18 : a.tmps[18]?.getD undef = .int .i64 N := (eval_tmp a 18).symm.trans (hd ⟨3, .data⟩ (by simp) rfl _ _ rfl rfl)
      refine wpOp_step (o := _) rfl ?_
      intro K' hK'
      rw [if_pos (by rfl)]
      go_simp
      have hw : IntKind.i64.wrap (-N) = -N := by rw [IntKind.wrap_i64]; omega
      rw [hw]
      exact hK' _ _ ⟨_, rfl, fun _ => rfl, g, fun k v h => h⟩
    | 5, ho =>
      simp at ho
      subst ho
      have h17 : a.tmps[17]?.getD undef = .slice (some ⟨b1, 0, none⟩) 1 1 := (eval_tmp a 17).symm.trans (hd ⟨2, .data⟩ (by simp) rfl _ _ rfl rfl)
      have h19 : a.tmps[19]?.getD undef = .int .i64 (-N) := (eval_tmp a 19).symm.trans (hd ⟨4, .data⟩ (by simp) rfl _ _ rfl rfl)
      refine wpOp_step (o := _) rfl ?_
      intro K' hK'
      rw [if_pos (by rfl)]
      go_simp
      exact hK' _ _ ⟨_, rfl, fun _ => rfl, g, fun k v h => h⟩
    | 6, ho =>
      simp at ho
      subst ho
      have h3 : a.tmps[3]?.getD undef = .slice (some ⟨b1, 0, none⟩) 1 1 := (kp.at (t := 3) (by kernel_rfl)).trans rfl
      refine wpOp_step (o := _) rfl ?_
      intro K' hK'
      rw [if_pos (by rfl)]
      go_simp
      exact hK' _ _ ⟨_, rfl, fun _ => rfl, g, fun k v h => h⟩
    | 7, ho =>
      simp at ho
      subst ho
      have h21 : a.tmps[21]?.getD undef = .slice (some ⟨b1, 0, none⟩) 1 1 := (eval_tmp a 21).symm.trans (hd ⟨6, .data⟩ (by simp) rfl _ _ rfl rfl)
      refine wpOp_step (o := _) rfl ?_
      intro K' hK'
      rw [if_pos (by rfl)]
      go_simp
      exact hK' _ _ ⟨_, rfl, fun _ => rfl, g, fun k v h => h⟩
    | 8, ho =>
      simp at ho
      subst ho
      refine wpOp_step (o := _) rfl ?_
      intro K' hK'
      rw [if_pos (by rfl)]
      go_simp
      have B1 := B0.alloc (Nat.le_refl _) (.cells (zer 21) 36)
      exact hK' _ _ ⟨_, rfl, fun _ => ⟨_, rfl, heap_new_at rfl⟩, g.alloc g.size _, fun k v h => erF_below B1 h⟩
    | 9, ho =>
      simp at ho
      subst ho
      obtain ⟨bb, e23, k23⟩ := hd ⟨8, .data⟩ (by simp) rfl _ _ rfl rfl
      have h23 := (eval_tmp a 23).symm.trans e23
      clear e23
      refine wpOp_step (o := _) rfl ?_
      intro K' hK'
      rw [if_pos (by rfl)]
      go_simp
      exact hK' _ _ ⟨_, rfl, fun _ => ⟨bb, rfl, k23⟩, g, fun k v h => h⟩
    | 10, ho =>
      simp at ho
      subst ho
      have h0 : a.tmps[0]?.getD undef = .int .i64 N := (kp.at (t := 0) (by kernel_rfl)).trans rfl
      refine wpOp_step (o := _) rfl ?_
      intro K' hK'
      rw [if_pos (by rfl)]
      go_simp
      exact hK' _ _ ⟨_, rfl, fun _ => rfl, g, fun k v h => h⟩
    | 11, ho =>
      simp at ho
      subst ho
      have h25 : a.tmps[25]?.getD undef = .int .i64 N := (eval_tmp a 25).symm.trans (hd ⟨10, .data⟩ (by simp) rfl _ _ rfl rfl)
      refine wpOp_step (o := _) rfl ?_
      intro K' hK'
      rw [if_pos (by rfl)]
      go_simp
      have hw : IntKind.i64.wrap (400000000000 + N) = 400000000000 + N := by rw [IntKind.wrap_i64]; omega
      rw [hw]
      exact hK' _ _ ⟨_, rfl, fun _ => rfl, g, fun k v h => h⟩
    | 12, ho =>
      simp at ho
      subst ho
      have h26 : a.tmps[26]?.getD undef = .int .i64 (400000000000 + N) := (eval_tmp a 26).symm.trans (hd ⟨11, .data⟩ (by simp) rfl _ _ rfl rfl)
      refine wpOp_step (o := _) rfl ?_
      intro K' hK'
      rw [if_pos (by rfl)]
      go_simp
      exact hK' _ _ ⟨_, rfl, fun _ => rfl, g, fun k v h => h⟩
    | 13, ho =>
      simp at ho
      subst ho
      have h27 : a.tmps[27]?.getD undef = .agg #[.int .i64 0, .int .i64 (400000000000 + N)] := (eval_tmp a 27).symm.trans (hd ⟨12, .data⟩ (by simp) rfl _ _ rfl rfl)
      refine wpOp_step (o := _) rfl ?_
      intro K' hK'
      rw [if_pos (by rfl)]
      go_simp
      have B1 := B0.alloc (Nat.le_refl _) (.cells #[.int .i64 0, .int .i64 (400000000000 + N)] 36)
      exact hK' _ _ ⟨_, rfl, fun _ => ⟨_, rfl, heap_new_at rfl⟩, g.alloc g.size _, fun k v h => erF_below B1 h⟩
    | 14, ho =>
      simp at ho
      subst ho
      obtain ⟨bb, e28, k28⟩ := hd ⟨13, .data⟩ (by simp) rfl _ _ rfl rfl
      have h28 := (eval_tmp a 28).symm.trans e28
      clear e28
      refine wpOp_step (o := _) rfl ?_
      intro K' hK'
      rw [if_pos (by rfl)]
      go_simp
      exact hK' _ _ ⟨_, rfl, fun _ => ⟨bb, rfl, k28⟩, g, fun k v h => h⟩
    | 15, ho =>
      simp at ho
      subst ho
      refine wpOp_step (o := _) rfl ?_
      intro K' hK'
      rw [if_pos (by rfl)]
      go_simp
      exact hK' _ _ ⟨_, rfl, fun _ => rfl, g, fun k v h => h⟩
    | 16, ho =>
      simp at ho
      subst ho
      have h0 : a.tmps[0]?.getD undef = .int .i64 N := (kp.at (t := 0) (by kernel_rfl)).trans rfl
      refine wpOp_step (o := _) rfl ?_
      intro K' hK'
      rw [if_pos (by rfl)]
      go_simp
      exact hK' _ _ ⟨_, rfl, fun _ => rfl, g, fun k v h => h⟩
    | 17, ho =>
      simp at ho
      subst ho
      have h31 : a.tmps[31]?.getD undef = .int .i64 N := (eval_tmp a 31).symm.trans (hd ⟨16, .data⟩ (by simp) rfl _ _ rfl rfl)
      refine wpOp_step (o := _) rfl ?_
      intro K' hK'
      rw [if_pos (by rfl)]
      go_simp
      exact hK' _ _ ⟨_, rfl, fun _ => rfl, g, fun k v h => h⟩
    | 18, ho =>
      simp at ho
      subst ho
      have h30 : a.tmps[30]?.getD undef = .agg #[.int .i64 0, .int .i64 400000000000] := (eval_tmp a 30).symm.trans (hd ⟨15, .data⟩ (by simp) rfl _ _ rfl rfl)
      have h32 : a.tmps[32]?.getD undef = .agg #[.int .i64 0, .int .i64 N] := (eval_tmp a 32).symm.trans (hd ⟨17, .data⟩ (by simp) rfl _ _ rfl rfl)
      refine wpOp_step (o := _) rfl ?_
      intro K' hK'
      rw [if_pos (by rfl)]
      go_simp
      have B1 := B0.alloc (Nat.le_refl _) (.cells #[.int .i64 0, .int .i64 400000000000, .int .i64 0, .int .i64 N] 36)
      exact hK' _ _ ⟨_, rfl, fun _ => ⟨_, rfl, heap_new_at rfl⟩, g.alloc g.size _, fun k v h => erF_below B1 h⟩
    | 19, ho =>
      simp at ho
      subst ho
      obtain ⟨bb, e33, k33⟩ := hd ⟨18, .data⟩ (by simp) rfl _ _ rfl rfl
      have h33 := (eval_tmp a 33).symm.trans e33
      clear e33
      refine wpOp_step (o := _) rfl ?_
      intro K' hK'
      rw [if_pos (by rfl)]
      go_simp
      exact hK' _ _ ⟨_, rfl, fun _ => ⟨bb, rfl, k33⟩, g, fun k v h => h⟩
    | 20, ho =>
      simp at ho
      subst ho
      refine wpOp_step (o := _) rfl ?_
      intro K' hK'
      rw [if_pos (by rfl)]
      go_simp
      exact hK' _ _ ⟨_, rfl, fun _ => rfl, g, fun k v h => h⟩
    | 21, ho =>
      simp at ho
      subst ho
      have h0 : a.tmps[0]?.getD undef = .int .i64 N := (kp.at (t := 0) (by kernel_rfl)).trans rfl
      refine wpOp_step (o := _) rfl ?_
      intro K' hK'
      rw [if_pos (by rfl)]
      go_simp
      exact hK' _ _ ⟨_, rfl, fun _ => rfl, g, fun k v h => h⟩
    | 22, ho =>
      simp at ho
      subst ho
      have h36 : a.tmps[36]?.getD undef = .int .i64 N := (eval_tmp a 36).symm.trans (hd ⟨21, .data⟩ (by simp) rfl _ _ rfl rfl)
      refine wpOp_step (o := _) rfl ?_
      intro K' hK'
      rw [if_pos (by rfl)]
      go_simp
      have hw : IntKind.i64.wrap (-N) = -N := by rw [IntKind.wrap_i64]; omega
      rw [hw]
      exact hK' _ _ ⟨_, rfl, fun _ => rfl, g, fun k v h => h⟩
    | 23, ho =>
      simp at ho
      subst ho
      have h37 : a.tmps[37]?.getD undef = .int .i64 (-N) := (eval_tmp a 37).symm.trans (hd ⟨22, .data⟩ (by simp) rfl _ _ rfl rfl)
      refine wpOp_step (o := _) rfl ?_
      intro K' hK'
      rw [if_pos (by rfl)]
      go_simp
      exact hK' _ _ ⟨_, rfl, fun _ => rfl, g, fun k v h => h⟩
    | 24, ho =>
      simp at ho
      subst ho
      have h35 : a.tmps[35]?.getD undef = .agg #[.int .i64 0, .int .i64 (-400000000000)] := (eval_tmp a 35).symm.trans (hd ⟨20, .data⟩ (by simp) rfl _ _ rfl rfl)
      have h38 : a.tmps[38]?.getD undef = .agg #[.int .i64 0, .int .i64 (-N)] := (eval_tmp a 38).symm.trans (hd ⟨23, .data⟩ (by simp) rfl _ _ rfl rfl)
      refine wpOp_step (o := _) rfl ?_
      intro K' hK'
      rw [if_pos (by rfl)]
      go_simp
      have B1 := B0.alloc (Nat.le_refl _) (.cells #[.int .i64 0, .int .i64 (-400000000000), .int .i64 0, .int .i64 (-N)] 36)
      exact hK' _ _ ⟨_, rfl, fun _ => ⟨_, rfl, heap_new_at rfl⟩, g.alloc g.size _, fun k v h => erF_below B1 h⟩
    | 25, ho =>
      simp at ho
      subst ho
      obtain ⟨bb, e39, k39⟩ := hd ⟨24, .data⟩ (by simp) rfl _ _ rfl rfl
      have h39 := (eval_tmp a 39).symm.trans e39
      clear e39
      refine wpOp_step (o := _) rfl ?_
      intro K' hK'
      rw [if_pos (by rfl)]
      go_simp
      exact hK' _ _ ⟨_, rfl, fun _ => ⟨bb, rfl, k39⟩, g, fun k v h => h⟩
    | 26, ho =>
      simp at ho
      subst ho
      refine wpOp_step (o := _) rfl ?_
      intro K' hK'
      rw [if_pos (by rfl)]
      go_simp
      exact hK' _ _ ⟨_, rfl, fun _ => rfl, g, fun k v h => h⟩
    | 27, ho =>
      simp at ho
      subst ho
      have h0 : a.tmps[0]?.getD undef = .int .i64 N := (kp.at (t := 0) (by kernel_rfl)).trans rfl
      refine wpOp_step (o := _) rfl ?_
      intro K' hK'
      rw [if_pos (by rfl)]
      go_simp
      exact hK' _ _ ⟨_, rfl, fun _ => rfl, g, fun k v h => h⟩
    | 28, ho =>
      simp at ho
      subst ho
      have h42 : a.tmps[42]?.getD undef = .int .i64 N := (eval_tmp a 42).symm.trans (hd ⟨27, .data⟩ (by simp) rfl _ _ rfl rfl)
      refine wpOp_step (o := _) rfl ?_
      intro K' hK'
      rw [if_pos (by rfl)]
      go_simp
      exact hK' _ _ ⟨_, rfl, fun _ => rfl, g, fun k v h => h⟩
    | 29, ho =>
      simp at ho
      subst ho
      have h0 : a.tmps[0]?.getD undef = .int .i64 N := (kp.at (t := 0) (by kernel_rfl)).trans rfl
      refine wpOp_step (o := _) rfl ?_
      intro K' hK'
      rw [if_pos (by rfl)]
      go_simp
      exact hK' _ _ ⟨_, rfl, fun _ => rfl, g, fun k v h => h⟩
    | 30, ho =>
      simp at ho
      subst ho
      have h44 : a.tmps[44]?.getD undef = .int .i64 N := (eval_tmp a 44).symm.trans (hd ⟨29, .data⟩ (by simp) rfl _ _ rfl rfl)
      refine wpOp_step (o := _) rfl ?_
      intro K' hK'
      rw [if_pos (by rfl)]
      go_simp
      have hw : IntKind.i64.wrap (-N) = -N := by rw [IntKind.wrap_i64]; omega
      rw [hw]
      exact hK' _ _ ⟨_, rfl, fun _ => rfl, g, fun k v h => h⟩
    | 31, ho =>
      simp at ho
      subst ho
      have h45 : a.tmps[45]?.getD undef = .int .i64 (-N) := (eval_tmp a 45).symm.trans (hd ⟨30, .data⟩ (by simp) rfl _ _ rfl rfl)
      refine wpOp_step (o := _) rfl ?_
      intro K' hK'
      rw [if_pos (by rfl)]
      go_simp
      exact hK' _ _ ⟨_, rfl, fun _ => rfl, g, fun k v h => h⟩
    | 32, ho =>
      simp at ho
      subst ho
      have h41 : a.tmps[41]?.getD undef = .agg #[.int .i64 0, .int .i64 400000000000] := (eval_tmp a 41).symm.trans (hd ⟨26, .data⟩ (by simp) rfl _ _ rfl rfl)
      have h43 : a.tmps[43]?.getD undef = .agg #[.int .i64 0, .int .i64 N] := (eval_tmp a 43).symm.trans (hd ⟨28, .data⟩ (by simp) rfl _ _ rfl rfl)
      have h46 : a.tmps[46]?.getD undef = .agg #[.int .i64 0, .int .i64 (-N)] := (eval_tmp a 46).symm.trans (hd ⟨31, .data⟩ (by simp) rfl _ _ rfl rfl)
      refine wpOp_step (o := _) rfl ?_
      intro K' hK'
      rw [if_pos (by rfl)]
      go_simp
      have B1 := B0.alloc (Nat.le_refl _) (.cells #[.int .i64 0, .int .i64 400000000000, .int .i64 0, .int .i64 N, .int .i64 0, .int .i64 (-N)] 36)
      exact hK' _ _ ⟨_, rfl, fun _ => ⟨_, rfl, heap_new_at rfl⟩, g.alloc g.size _, fun k v h => erF_below B1 h⟩
    | 33, ho =>
      simp at ho
      subst ho
      obtain ⟨bb, e47, k47⟩ := hd ⟨32, .data⟩ (by simp) rfl _ _ rfl rfl
      have h47 := (eval_tmp a 47).symm.trans e47
      clear e47
      refine wpOp_step (o := _) rfl ?_
      intro K' hK'
      rw [if_pos (by rfl)]
      go_simp
      exact hK' _ _ ⟨_, rfl, fun _ => ⟨bb, rfl, k47⟩, g, fun k v h => h⟩
    | 34, ho =>
      simp at ho
      subst ho
      refine wpOp_step (o := _) rfl ?_
      intro K' hK'
      rw [if_pos (by rfl)]
      go_simp
      have B1 := B0.alloc (Nat.le_refl _) (.cells (zer 20) 36)
      exact hK' _ _ ⟨_, rfl, fun _ => ⟨_, rfl, heap_new_at rfl⟩, g.alloc g.size _, fun k v h => erF_below B1 h⟩
    | 35, ho =>
      simp at ho
      subst ho
      obtain ⟨bb, e49, k49⟩ := hd ⟨34, .data⟩ (by simp) rfl _ _ rfl rfl
      have h49 := (eval_tmp a 49).symm.trans e49
      clear e49
      refine wpOp_step (o := _) rfl ?_
      intro K' hK'
      rw [if_pos (by rfl)]
      go_simp
      exact hK' _ _ ⟨_, rfl, fun _ => ⟨bb, rfl, k49⟩, g, fun k v h => h⟩
    | 36, ho =>
      simp at ho
      subst ho
      refine wpOp_step (o := _) rfl ?_
      intro K' hK'
      rw [if_pos (by rfl)]
      go_simp
      exact hK' _ _ ⟨_, rfl, fun _ => rfl, g, fun k v h => h⟩
    | 37, ho =>
      simp at ho
      subst ho
      have h16 : a.tmps[16]?.getD undef = .agg #[.slice (some ⟨b1, 0, none⟩) 1 1, .int .i64 0, .int .i64 1] := (eval_tmp a 16).symm.trans (hd ⟨1, .data⟩ (by simp) rfl _ _ rfl rfl)
      have h20 : a.tmps[20]?.getD undef = .agg #[.slice (some ⟨b1, 0, none⟩) 1 1, .int .i64 (-N), .int .i64 1] := (eval_tmp a 20).symm.trans (hd ⟨5, .data⟩ (by simp) rfl _ _ rfl rfl)
      have h22 : a.tmps[22]?.getD undef = .agg #[.slice (some ⟨b1, 0, none⟩) 1 1, .int .i64 10000001, .int .i64 1] := (eval_tmp a 22).symm.trans (hd ⟨7, .data⟩ (by simp) rfl _ _ rfl rfl)
      obtain ⟨c8, e24, k24⟩ := hd ⟨9, .data⟩ (by simp) rfl _ _ rfl rfl
      have h24 := (eval_tmp a 24).symm.trans e24
      clear e24
      obtain ⟨c13, e29, k29⟩ := hd ⟨14, .data⟩ (by simp) rfl _ _ rfl rfl
      have h29 := (eval_tmp a 29).symm.trans e29
      clear e29
      obtain ⟨c18, e34, k34⟩ := hd ⟨19, .data⟩ (by simp) rfl _ _ rfl rfl
      have h34 := (eval_tmp a 34).symm.trans e34
      clear e34
      obtain ⟨c24, e40, k40⟩ := hd ⟨25, .data⟩ (by simp) rfl _ _ rfl rfl
      have h40 := (eval_tmp a 40).symm.trans e40
      clear e40
      obtain ⟨c32, e48, k48⟩ := hd ⟨33, .data⟩ (by simp) rfl _ _ rfl rfl
      have h48 := (eval_tmp a 48).symm.trans e48
      clear e48
      obtain ⟨c34, e50, k50⟩ := hd ⟨35, .data⟩ (by simp) rfl _ _ rfl rfl
      have h50 := (eval_tmp a 50).symm.trans e50
      clear e50
      have h51 : a.tmps[51]?.getD undef = .agg #[.slice none 0 0, .int .i64 5, .int .i64 0] := (eval_tmp a 51).symm.trans (hd ⟨36, .data⟩ (by simp) rfl _ _ rfl rfl)
      refine wpOp_step (o := _) rfl ?_
      intro K' hK'
      rw [if_pos (by rfl)]
      go_simp
      have B1 := B0.alloc (Nat.le_refl _) (.cells #[.slice (some ⟨b1, 0, none⟩) 1 1, .int .i64 0, .int .i64 1, .slice (some ⟨b1, 0, none⟩) 1 1, .int .i64 (-N), .int .i64 1, .slice (some ⟨b1, 0, none⟩) 1 1, .int .i64 10000001, .int .i64 1, .slice (some ⟨c8, 0, none⟩) 21 21, .int .i64 1, .int .i64 1, .slice (some ⟨c13, 0, none⟩) 1 1, .int .i64 1, .int .i64 1, .slice (some ⟨c18, 0, none⟩) 2 2, .int .i64 1, .int .i64 1, .slice (some ⟨c24, 0, none⟩) 2 2, .int .i64 1, .int .i64 1, .slice (some ⟨c32, 0, none⟩) 3 3, .int .i64 10000000, .int .i64 0, .slice (some ⟨c34, 0, none⟩) 20 20, .int .i64 1, .int .i64 0, .slice none 0 0, .int .i64 5, .int .i64 0] 38)
      have kp' : ∀ b o, V.heap[b]? = some o → (V.alloc (.cells #[.slice (some ⟨b1, 0, none⟩) 1 1, .int .i64 0, .int .i64 1, .slice (some ⟨b1, 0, none⟩) 1 1, .int .i64 (-N), .int .i64 1, .slice (some ⟨b1, 0, none⟩) 1 1, .int .i64 10000001, .int .i64 1, .slice (some ⟨c8, 0, none⟩) 21 21, .int .i64 1, .int .i64 1, .slice (some ⟨c13, 0, none⟩) 1 1, .int .i64 1, .int .i64 1, .slice (some ⟨c18, 0, none⟩) 2 2, .int .i64 1, .int .i64 1, .slice (some ⟨c24, 0, none⟩) 2 2, .int .i64 1, .int .i64 1, .slice (some ⟨c32, 0, none⟩) 3 3, .int .i64 10000000, .int .i64 0, .slice (some ⟨c34, 0, none⟩) 20 20, .int .i64 1, .int .i64 0, .slice none 0 0, .int .i64 5, .int .i64 0] 38)).heap[b]? = some o := fun b o e => (B1.block b (Array.getElem?_eq_some_iff.1 e).1).trans e
      exact hK' _ _ ⟨_, rfl, fun _ => ⟨_, c8, c13, c18, c24, c32, c34, rfl, heap_new_at rfl, kp' _ _ k24, kp' _ _ k29, kp' _ _ k34, kp' _ _ k40, kp' _ _ k48, kp' _ _ k50⟩, g.alloc g.size _, fun k v h => erF_below B1 h⟩
    | 38, ho =>
      simp at ho
      subst ho
      obtain ⟨b, _, _, _, _, _, _, e52, _⟩ := hd ⟨37, .data⟩ (by simp) rfl _ _ rfl rfl
      have h52 := (eval_tmp a 52).symm.trans e52
      clear e52
      refine wpOp_step (o := _) rfl ?_
      intro K' hK'
      rw [if_pos (by rfl)]
      go_simp
      exact hK' _ _ ⟨_, rfl, fun _ => rfl, g, fun k v h => h⟩
    | 39, ho =>
      simp at ho
      subst ho
      refine wpOp_step (o := _) rfl ?_
      intro K' hK'
      rw [if_pos (by rfl)]
      go_simp
      exact hK' _ _ ⟨_, rfl, fun _ => rfl, g, fun k v h => h⟩
    | k + 40, ho => exact absurd ho (by simp)
  · intro a V g kp hf
    obtain ⟨bt, c8, c13, c18, c24, c32, c34, e52, kt, k8, k13, k18, k24, k32, k34⟩ := hf 37 _ 52 rfl rfl
    have h52 := (eval_tmp a 52).symm.trans e52
    have h53 := (eval_tmp a 53).symm.trans (hf 38 _ 53 rfl rfl)
    have h54 := (eval_tmp a 54).symm.trans (hf 39 _ 54 rfl rfl)
    have ha := act_open (n := 103) (ds := []) (kp.size.trans rfl) (kp.defers.trans rfl)
    rw [show List.range 103 = [0, 1, 2, 3, 4, 5, 6, 7, 8, 9, 10, 11, 12, 13, 14, 15, 16, 17, 18, 19, 20, 21, 22, 23, 24, 25, 26, 27, 28, 29, 30, 31, 32, 33, 34, 35, 36, 37, 38, 39, 40, 41, 42, 43, 44, 45, 46, 47, 48, 49, 50, 51, 52, 53, 54, 55, 56, 57, 58, 59, 60, 61, 62, 63, 64, 65, 66, 67, 68, 69, 70, 71, 72, 73, 74, 75, 76, 77, 78, 79, 80, 81, 82, 83, 84, 85, 86, 87, 88, 89, 90, 91, 92, 93, 94, 95, 96, 97, 98, 99, 100, 101, 102] from rfl] at ha
    simp only [List.map_cons, List.map_nil] at ha
    rw [h52, h53, h54] at ha
    clear kp hf e52 h52 h53 h54 mk21 mk20
    generalize a.tmps[0]?.getD undef = x0 at ha
    generalize a.tmps[1]?.getD undef = x1 at ha
    generalize a.tmps[2]?.getD undef = x2 at ha
    generalize a.tmps[3]?.getD undef = x3 at ha
    generalize a.tmps[4]?.getD undef = x4 at ha
    generalize a.tmps[5]?.getD undef = x5 at ha
    generalize a.tmps[6]?.getD undef = x6 at ha
    generalize a.tmps[7]?.getD undef = x7 at ha
    generalize a.tmps[8]?.getD undef = x8 at ha
    generalize a.tmps[9]?.getD undef = x9 at ha
    generalize a.tmps[10]?.getD undef = x10 at ha
    generalize a.tmps[11]?.getD undef = x11 at ha
    generalize a.tmps[12]?.getD undef = x12 at ha
    generalize a.tmps[13]?.getD undef = x13 at ha
    generalize a.tmps[14]?.getD undef = x14 at ha
    generalize a.tmps[15]?.getD undef = x15 at ha
    generalize a.tmps[16]?.getD undef = x16 at ha
    generalize a.tmps[17]?.getD undef = x17 at ha
    generalize a.tmps[18]?.getD undef = x18 at ha
    generalize a.tmps[19]?.getD undef = x19 at ha
    generalize a.tmps[20]?.getD undef = x20 at ha
    generalize a.tmps[21]?.getD undef = x21 at ha
    generalize a.tmps[22]?.getD undef = x22 at ha
    generalize a.tmps[23]?.getD undef = x23 at ha
    generalize a.tmps[24]?.getD undef = x24 at ha
    generalize a.tmps[25]?.getD undef = x25 at ha
    generalize a.tmps[26]?.getD undef = x26 at ha
    generalize a.tmps[27]?.getD undef = x27 at ha
    generalize a.tmps[28]?.getD undef = x28 at ha
    generalize a.tmps[29]?.getD undef = x29 at ha
    generalize a.tmps[30]?.getD undef = x30 at ha
    generalize a.tmps[31]?.getD undef = x31 at ha
    generalize a.tmps[32]?.getD undef = x32 at ha
    generalize a.tmps[33]?.getD undef = x33 at ha
    generalize a.tmps[34]?.getD undef = x34 at ha
    generalize a.tmps[35]?.getD undef = x35 at ha
    generalize a.tmps[36]?.getD undef = x36 at ha
    generalize a.tmps[37]?.getD undef = x37 at ha
    generalize a.tmps[38]?.getD undef = x38 at ha
    generalize a.tmps[39]?.getD undef = x39 at ha
    generalize a.tmps[40]?.getD undef = x40 at ha
    generalize a.tmps[41]?.getD undef = x41 at ha
    generalize a.tmps[42]?.getD undef = x42 at ha
    generalize a.tmps[43]?.getD undef = x43 at ha
    generalize a.tmps[44]?.getD undef = x44 at ha
    generalize a.tmps[45]?.getD undef = x45 at ha
    generalize a.tmps[46]?.getD undef = x46 at ha
    generalize a.tmps[47]?.getD undef = x47 at ha
    generalize a.tmps[48]?.getD undef = x48 at ha
    generalize a.tmps[49]?.getD undef = x49 at ha
    generalize a.tmps[50]?.getD undef = x50 at ha
    generalize a.tmps[51]?.getD undef = x51 at ha
    generalize a.tmps[55]?.getD undef = x55 at ha
    generalize a.tmps[56]?.getD undef = x56 at ha
    generalize a.tmps[57]?.getD undef = x57 at ha
    generalize a.tmps[58]?.getD undef = x58 at ha
    generalize a.tmps[59]?.getD undef = x59 at ha
    generalize a.tmps[60]?.getD undef = x60 at ha
    generalize a.tmps[61]?.getD undef = x61 at ha
    generalize a.tmps[62]?.getD undef = x62 at ha
    generalize a.tmps[63]?.getD undef = x63 at ha
    generalize a.tmps[64]?.getD undef = x64 at ha
    generalize a.tmps[65]?.getD undef = x65 at ha
    generalize a.tmps[66]?.getD undef = x66 at ha
    generalize a.tmps[67]?.getD undef = x67 at ha
    generalize a.tmps[68]?.getD undef = x68 at ha
    generalize a.tmps[69]?.getD undef = x69 at ha
    generalize a.tmps[70]?.getD undef = x70 at ha
    generalize a.tmps[71]?.getD undef = x71 at ha
    generalize a.tmps[72]?.getD undef = x72 at ha
    generalize a.tmps[73]?.getD undef = x73 at ha
    generalize a.tmps[74]?.getD undef = x74 at ha
    generalize a.tmps[75]?.getD undef = x75 at ha
    generalize a.tmps[76]?.getD undef = x76 at ha
    generalize a.tmps[77]?.getD undef = x77 at ha
    generalize a.tmps[78]?.getD undef = x78 at ha
    generalize a.tmps[79]?.getD undef = x79 at ha
    generalize a.tmps[80]?.getD undef = x80 at ha
    generalize a.tmps[81]?.getD undef = x81 at ha
    generalize a.tmps[82]?.getD undef = x82 at ha
    generalize a.tmps[83]?.getD undef = x83 at ha
    generalize a.tmps[84]?.getD undef = x84 at ha
    generalize a.tmps[85]?.getD undef = x85 at ha
    generalize a.tmps[86]?.getD undef = x86 at ha
    generalize a.tmps[87]?.getD undef = x87 at ha
    generalize a.tmps[88]?.getD undef = x88 at ha
    generalize a.tmps[89]?.getD undef = x89 at ha
    generalize a.tmps[90]?.getD undef = x90 at ha
    generalize a.tmps[91]?.getD undef = x91 at ha
    generalize a.tmps[92]?.getD undef = x92 at ha
    generalize a.tmps[93]?.getD undef = x93 at ha
    generalize a.tmps[94]?.getD undef = x94 at ha
    generalize a.tmps[95]?.getD undef = x95 at ha
    generalize a.tmps[96]?.getD undef = x96 at ha
    generalize a.tmps[97]?.getD undef = x97 at ha
    generalize a.tmps[98]?.getD undef = x98 at ha
    generalize a.tmps[99]?.getD undef = x99 at ha
    generalize a.tmps[100]?.getD undef = x100 at ha
    generalize a.tmps[101]?.getD undef = x101 at ha
    generalize a.tmps[102]?.getD undef = x102 at ha
    subst ha
    have k1 : V.heap[b1]? = some (.cells #[.int .i64 1, .int .i64 N] 36 (0, 0)) := (g.block b1 (Array.getElem?_eq_some_iff.1 hone).1).trans hone
    have sN : Sl kItem (Hp.all V) (some ⟨b1, 0, none⟩) 1 [⟨1, N⟩] := Sl.lit (xs := ([⟨1, N⟩] : List SItem)) k1 (by simp [maxLen])
    have s8 : Sl kItem (Hp.all V) (some ⟨c8, 0, none⟩) 21 (List.replicate 21 ⟨0, 0⟩) := Sl.lit (xs := (List.replicate 21 ⟨0, 0⟩ : List SItem)) k8 (by simp [maxLen])
    have s13 : Sl kItem (Hp.all V) (some ⟨c13, 0, none⟩) 1 [⟨0, 400000000000 + N⟩] := Sl.lit (xs := ([⟨0, 400000000000 + N⟩] : List SItem)) k13 (by simp [maxLen])
    have s18 : Sl kItem (Hp.all V) (some ⟨c18, 0, none⟩) 2 [⟨0, 400000000000⟩, ⟨0, N⟩] := Sl.lit (xs := ([⟨0, 400000000000⟩, ⟨0, N⟩] : List SItem)) k18 (by simp [maxLen])
    have s24 : Sl kItem (Hp.all V) (some ⟨c24, 0, none⟩) 2 [⟨0, -400000000000⟩, ⟨0, -N⟩] := Sl.lit (xs := ([⟨0, -400000000000⟩, ⟨0, -N⟩] : List SItem)) k24 (by simp [maxLen])
    have s32 : Sl kItem (Hp.all V) (some ⟨c32, 0, none⟩) 3 [⟨0, 400000000000⟩, ⟨0, N⟩, ⟨0, -N⟩] := Sl.lit (xs := ([⟨0, 400000000000⟩, ⟨0, N⟩, ⟨0, -N⟩] : List SItem)) k32 (by simp [maxLen])
    have s34 : Sl kItem (Hp.all V) (some ⟨c34, 0, none⟩) 20 (List.replicate 20 ⟨0, 0⟩) := Sl.lit (xs := (List.replicate 20 ⟨0, 0⟩ : List SItem)) k34 (by simp [maxLen])
    have st : Sl kFx (Hp.all V) (some ⟨bt, 0, none⟩) 10 (fxRows N) := by
      refine ⟨by simp [fxRows], by simp [maxLen], (fun e => nomatch e), fun i x hx => ?_⟩
      match i, hx with
      | 0, hx => simp [fxRows] at hx; subst hx; exact ⟨bt, 0, _, _, _, _, rfl, kt, ⟨_, _, rfl, sN⟩, fun j u hu => by match j, hu with | 0, hu => exact hu | 1, hu => exact hu | 2, hu => exact hu | j + 3, hu => simp at hu⟩
      | 1, hx => simp [fxRows] at hx; subst hx; exact ⟨bt, 0, _, _, _, _, rfl, kt, ⟨_, _, rfl, sN⟩, fun j u hu => by match j, hu with | 0, hu => exact hu | 1, hu => exact hu | 2, hu => exact hu | j + 3, hu => simp at hu⟩
      | 2, hx => simp [fxRows] at hx; subst hx; exact ⟨bt, 0, _, _, _, _, rfl, kt, ⟨_, _, rfl, sN⟩, fun j u hu => by match j, hu with | 0, hu => exact hu | 1, hu => exact hu | 2, hu => exact hu | j + 3, hu => simp at hu⟩
      | 3, hx => simp [fxRows] at hx; subst hx; exact ⟨bt, 0, _, _, _, _, rfl, kt, ⟨_, _, rfl, s8⟩, fun j u hu => by match j, hu with | 0, hu => exact hu | 1, hu => exact hu | 2, hu => exact hu | j + 3, hu => simp at hu⟩
      | 4, hx => simp [fxRows] at hx; subst hx; exact ⟨bt, 0, _, _, _, _, rfl, kt, ⟨_, _, rfl, s13⟩, fun j u hu => by match j, hu with | 0, hu => exact hu | 1, hu => exact hu | 2, hu => exact hu | j + 3, hu => simp at hu⟩
      | 5, hx => simp [fxRows] at hx; subst hx; exact ⟨bt, 0, _, _, _, _, rfl, kt, ⟨_, _, rfl, s18⟩, fun j u hu => by match j, hu with | 0, hu => exact hu | 1, hu => exact hu | 2, hu => exact hu | j + 3, hu => simp at hu⟩
      | 6, hx => simp [fxRows] at hx; subst hx; exact ⟨bt, 0, _, _, _, _, rfl, kt, ⟨_, _, rfl, s24⟩, fun j u hu => by match j, hu with | 0, hu => exact hu | 1, hu => exact hu | 2, hu => exact hu | j + 3, hu => simp at hu⟩
      | 7, hx => simp [fxRows] at hx; subst hx; exact ⟨bt, 0, _, _, _, _, rfl, kt, ⟨_, _, rfl, s32⟩, fun j u hu => by match j, hu with | 0, hu => exact hu | 1, hu => exact hu | 2, hu => exact hu | j + 3, hu => simp at hu⟩
      | 8, hx => simp [fxRows] at hx; subst hx; exact ⟨bt, 0, _, _, _, _, rfl, kt, ⟨_, _, rfl, s34⟩, fun j u hu => by match j, hu with | 0, hu => exact hu | 1, hu => exact hu | 2, hu => exact hu | j + 3, hu => simp at hu⟩
      | 9, hx => simp [fxRows] at hx; subst hx; exact ⟨bt, 0, _, _, _, _, rfl, kt, ⟨_, _, rfl, (Sl.none _ _)⟩, fun j u hu => by match j, hu with | 0, hu => exact hu | 1, hu => exact hu | 2, hu => exact hu | j + 3, hu => simp at hu⟩
      | i + 10, hx => simp [fxRows] at hx
    have gW := hB0.trans (g.mono hW1)
    have gS : b1 ≤ V.heap.size := Nat.le_trans hW1 g.size
    clear k1 k8 k13 k18 k24 k32 k34 kt sN s8 s13 s18 s24 s32 s34 hone hB0 g
    refine ‹∀ (a : Act) (w : World), Code.wp _ _ _ a w → _› _ _ ?_
    have E0 := Env.start V
    go_wp2
    go_loopw [54] (fun i wr => ∃ (j : Nat), j ≤ 10 ∧ i = .int .i64 j ∧ Env V wr []) (fun i _ => 10 - (intOf i).toNat)
    case atStart => exact ⟨0, by omega, rfl, E0⟩
    case round =>
      clear E0
      obtain ⟨j, hj, rfl, E⟩ := hrel
      by_cases hlt : j < 10
      · obtain ⟨x, hx⟩ := some_of_lt (show j < (fxRows N).length from hlt)
        have hrow := RO.out x (List.mem_of_getElem? hx.out)
        obtain ⟨bq, oq, B, cb, e1, sl, d0, d1, d2⟩ := st.fx ((Hp.all_sub V).of_below E.low) hx
        cases e1
        rw [Nat.zero_add] at d0 d1 d2
        have i1 : (0 : Int) ≤ (j : Int) := by omega
        have i2 : (j : Int) < 10 := by omega
        have EA := E.alloc (.cells #[.slice B x.l.length cb, .int .i64 x.fx, .int .i64 x.e] 38)
        simp at EA
        obtain ⟨WA, hWA⟩ : ∃ WA, WA = wr.alloc (.cells #[.slice B x.l.length cb, .int .i64 x.fx, .int .i64 x.e] 38) := ⟨_, rfl⟩
        go_upto_region 6 with fail
        rw [← hWA] at EA
        rw [← hWA]
        clear hWA d0 d1 d2 E
        generalize wr.heap.size = q at *
        have g0 := EA.cell 0 rfl 0 rfl
        have g1 := EA.cell 0 rfl 1 rfl
        have CC := convert_calls B cb x.l x.fx (Hp.all V) WA ((Hp.all_sub V).of_below EA.low) sl
        have hll : x.l.length ≤ 30 := by
          have hm := List.mem_of_getElem? hx.out
          simp only [fxRows, List.mem_cons, List.not_mem_nil, or_false] at hm
          rcases hm with rfl | rfl | rfl | rfl | rfl | rfl | rfl | rfl | rfl | rfl <;> simp
        rcases hrow with ⟨he, hok⟩ | ⟨he, hok⟩
        · have HL : Hid (convL x.l x.fx = convItems x.l x.fx ∧ convE x.l x.fx = 0) := by unfold Hid convL convE; rw [hok]; simp
          have HLL : Hid ((convItems x.l x.fx).length = x.l.length) := convItems_length _ _
          unfold ConvAns at CC
          rw [HL.out.1, HL.out.2, HLL.out] at CC
          clear hok HL HLL
          go_wp2_with fail
          refine CC.mono ?_
          rintro e w3 ⟨C3, n3, h3, rfl, o3, u3⟩
          have EB := EA.new u3
          simp at EB
          clear EA g0 g1 CC o3 u3
          have g0 := EB.cell 0 rfl 0 rfl
          have g2 := EB.cell 0 rfl 2 rfl
          rw [he] at g2
          have EC := (EB.drop 1).drop 0
          simp at EC
          generalize convD x.l x.fx = cd at *
          go_wp2
          go_roundw
          case rel => exact ⟨j + 1, by omega, by go_num, EC⟩
          case measure => simp [intOf]; omega
        · have HL : Hid (convL x.l x.fx = [] ∧ convD x.l x.fx = 0 ∧ convE x.l x.fx = 1) := by unfold Hid convL convE convD; rw [hok]; simp
          unfold ConvAns at CC
          rw [HL.out.1, HL.out.2.1, HL.out.2.2] at CC
          clear hok HL
          go_wp2_with fail
          refine CC.mono ?_
          rintro e w3 ⟨C3, n3, h3, rfl, o3, u3⟩
          have EB := EA.new u3
          simp at EB
          clear EA g0 g1 CC o3 u3
          have g0 := EB.cell 0 rfl 0 rfl
          have g2 := EB.cell 0 rfl 2 rfl
          rw [he] at g2
          have EC := (EB.drop 1).drop 0
          simp at EC
          go_wp2
          go_roundw
          case rel => exact ⟨j + 1, by omega, by go_num, EC⟩
          case measure => simp [intOf]; omega
      · obtain rfl : j = 10 := by omega
        rw [show ((10 : Nat) : Int) = 10 from rfl]
        go_wp2_with fail
        refine (Itm.add E (Hp.none_sub _) (Hp.none_sub _) (Sl.none _ _) (Sl.none _ _) (by simp) (by simp) (by intro x hx; simp at hx) (by intro x hx; simp at hx) 0 0 rfl rfl (show fxAdd ([] ++ []) = [] from rfl)).mono ?_
        rintro e w8 ⟨C8, n8, h8, rfl, o8, F1⟩
        go_wp2_with fail
        refine (wakes25 _).mono ?_
        rintro e w9 ⟨rfl, B9⟩
        go_wp2
        go_ret
        exact ⟨rfl, by rw [HB1.out]; exact gW.trans ((F1.below B9).low.mono gS)⟩
end Go.Proofs.Ytdcfojohgcmpcaa
end
section
/- The walk of law25.FxTells. -/
namespace Go.Proofs.Ytdcfojohgcmpcaa
open Go.RowKit Go.Sl
set_option maxHeartbeats 4000000
set_option maxRecDepth 100000
theorem fxTells_calls (A B D : Option Addr) (ca cb cd : Nat) (ks ams other : List Int) (rt : Int) (raw : Bool) (h1 h2 h3 : Hp) (w : World) (hs1 : h1.sub w) (hs2 : h2.sub w) (hs3 : h3.sub w)
    (s1 : Sl kInt h1 A ca ks) (s2 : Sl kInt h2 B cb ams) (s3 : Sl kInt h3 D cd other) (w2 : ∀ n ∈ ams, I64 n) :
    Calls Try.prog 5 #[.slice A ks.length ca, .slice B ams.length cb, .slice D other.length cd, .int .i64 rt, .bool raw] w fun e w' => e = .returned (.bool true) ∧ Below w.heap.size w w' := by
  have E0 := Env.start w
  have la : (mkItems ks ams 22).length ≤ 22 := by simp [mkItems]; omega
  have lb : (mkItems other ams 9).length ≤ 9 := by simp [mkItems]; omega
  have RA := fun (l : List Hp) (W : World) (E : Env w W l) => Itm.items E hs1 hs2 s1 s2 w2 22 (by omega) _ _ rfl rfl
  have RB := fun (l : List Hp) (W : World) (E : Env w W l) => Itm.items E hs3 hs2 s3 s2 w2 9 (by omega) _ _ rfl rfl
  generalize mkItems ks ams 22 = xs at *
  generalize mkItems other ams 9 = ys at *
  clear hs1 hs2 hs3 s1 s2 s3 w2
  go_enter Try.func5, Try.ntmps5
  go_wp2_with fail
  refine (RA _ _ E0).mono ?_
  rintro e w1 ⟨C1, n1, hA, rfl, o1, E1⟩
  simp at E1
  go_wp2_with fail
  refine (RB _ _ E1).mono ?_
  rintro e w2 ⟨C2, n2, hB, rfl, o2, E2⟩
  simp at E2
  clear RA RB E1
  go_upto_if 29 with fail
  go_cut [3] (fun r wx => ∃ v : Int, r = .int .i64 v ∧ Env w wx [hA, hB])
  case first =>
    cases raw with
    | true =>
      go_wp2_with fail
      go_meet
      exact ⟨_, rfl, E2⟩
    | false =>
      have WC := fun W => within_calls rt 20000000 W (by omega) (by omega)
      have r1 := within_lo rt (n := 20000000) (by omega)
      have r2 := within_hi rt (n := 20000000) (by omega)
      generalize within rt 20000000 = q at *
      go_wp2_with fail
      refine (WC _).mono ?_
      rintro e w' ⟨rfl, rfl⟩
      go_wp2_with fail
      go_meet
      exact ⟨_, rfl, E2⟩
  case rest =>
  clear E2
  obtain ⟨r, rfl, E2⟩ := hcut
  go_wp2_with fail
  refine (Itm.copy E2 o1.sl (E2.sub 0 rfl) (by omega) _ rfl).mono ?_
  rintro e w3 ⟨C3, n3, h3, rfl, o3, E3⟩
  simp at E3
  obtain ⟨CL, hCL⟩ : ∃ CL, convL xs r = CL := ⟨_, rfl⟩
  obtain ⟨CD, hCD⟩ : ∃ CD, convD xs r = CD := ⟨_, rfl⟩
  obtain ⟨CE, hCE⟩ : ∃ CE, convE xs r = CE := ⟨_, rfl⟩
  have HC := Lib.hid (And.intro hCL (And.intro hCD hCE))
  clear hCL hCD hCE
  go_wp2_with fail
  refine (Itm.convert E3 (E3.sub 0 rfl) o1.sl r _ rfl HC.out).mono ?_
  rintro e w4 ⟨C4, n4, h4, rfl, o4, E4⟩
  simp at E4
  go_wp2_with fail
  refine (Itm.refConvert E4 (E4.sub 0 rfl) o1.sl r _ rfl HC.out).mono ?_
  rintro e w5 ⟨C5, n5, h5, rfl, o5, E5⟩
  simp at E5
  clear HC
  go_wp2_with fail
  refine (Itm.same E5 (E5.sub 3 rfl) (E5.sub 4 rfl) o4.sl o5.sl _ _ rfl rfl rfl).mono ?_
  rintro e w6 ⟨rfl, E6⟩
  go_wp2_with fail
  refine (Itm.same E6 (E6.sub 0 rfl) (E6.sub 2 rfl) o1.sl o3.sl _ _ rfl rfl rfl).mono ?_
  rintro e w7 ⟨rfl, E7⟩
  have E8 := ((E7.drop 4).drop 3).drop 2
  simp at E8
  clear E2 E3 E4 E5 E6 E7 o3 o4 o5
  go_wp2_with fail
  go_loopw [71] (fun i wr => ∃ (j : Nat) (zs : List SItem) (hz : Hp), j ≤ xs.length ∧ i = .int .i64 j ∧ Hid (zs = (xs.take j).map modI ++ xs.drop j) ∧ Hid (zs.length = xs.length) ∧ Ow kItem hz C1 n1 zs ∧ Env w wr [hz, hB]) (fun i _ => xs.length - (intOf i).toNat)
  case atStart => exact ⟨0, xs, hA, by omega, rfl, rfl, rfl, o1, E8⟩
  case round =>
    clear E8 o1
    obtain ⟨j, zs, hz, hj, rfl, hzz, hzl, oz, E⟩ := hrel
    by_cases hlt : j < xs.length
    · obtain ⟨x, hx⟩ := some_of_lt hlt
      have hzx : Hid (zs[j]? = some x) := by unfold Hid; rw [hzz.out, map_get_step]; exact hx.out
      obtain ⟨b1, off1, rfl, c1, c2⟩ := oz.sl.item (E.sub 0 rfl) hzx
      have hfz := oz.cell_free (E.sub 0 rfl) (lt_of_some hzx.out)
      have i1 : (0 : Int) ≤ (j : Int) := by omega
      have i2 : (j : Int) < (xs.length : Int) := by omega
      obtain ⟨hv, ov, uv⟩ := Ow.set (x' := modI x) (v := .int .i64 (x.amt.tmod 1000000)) (j := 1) oz (E.sub 0 rfl) hzx.out (by decide) rfl
      have EV := E.upd 0 rfl uv
      simp at EV
      clear uv
      go_wp2
      go_roundw
      case rel => exact ⟨j + 1, zs.set j (modI x), hv, by omega, by go_num, by unfold Hid; rw [hzz.out, map_set_step _ _ _ _ hx.out], by unfold Hid; rw [List.length_set]; exact hzl.out, ov, EV⟩
      case measure => simp [intOf]; omega
    · obtain rfl : j = xs.length := by omega
      have HM : Hid (zs = xs.map modI) := by unfold Hid; rw [hzz.out, List.drop_length, List.append_nil, List.take_length]
      clear hzz hlt
      have E9 := E
      have oX := oz
      have HX := HM
      have HXL := hzl
      obtain ⟨hY, hhY⟩ : ∃ hY, hz = hY := ⟨_, rfl⟩
      rw [hhY] at E9 oX
      obtain ⟨ax, has⟩ : ∃ ax, zs = ax := ⟨_, rfl⟩
      rw [has] at oX HX HXL
      clear E oz HM hzl hhY has
      try clear hz zs
      go_wp2_with fail
      go_loopw [85] (fun i wr => ∃ (j : Nat) (zs : List SItem) (hz : Hp), j ≤ ys.length ∧ i = .int .i64 j ∧ Hid (zs = (ys.take j).map modI ++ ys.drop j) ∧ Hid (zs.length = ys.length) ∧ Ow kItem hz C2 n2 zs ∧ Env w wr [hY, hz]) (fun i _ => ys.length - (intOf i).toNat)
      case atStart => exact ⟨0, ys, hB, by omega, rfl, rfl, rfl, o2, E9⟩
      case round =>
        clear E9 o2
        obtain ⟨j, zs, hz, hj, rfl, hzz, hzl, oz, E⟩ := hrel
        by_cases hlt : j < ys.length
        · obtain ⟨x, hx⟩ := some_of_lt hlt
          have hzx : Hid (zs[j]? = some x) := by unfold Hid; rw [hzz.out, map_get_step]; exact hx.out
          obtain ⟨b1, off1, rfl, c1, c2⟩ := oz.sl.item (E.sub 1 rfl) hzx
          have hfz := oz.cell_free (E.sub 1 rfl) (lt_of_some hzx.out)
          have i1 : (0 : Int) ≤ (j : Int) := by omega
          have i2 : (j : Int) < (ys.length : Int) := by omega
          obtain ⟨hv, ov, uv⟩ := Ow.set (x' := modI x) (v := .int .i64 (x.amt.tmod 1000000)) (j := 1) oz (E.sub 1 rfl) hzx.out (by decide) rfl
          have EV := E.upd 1 rfl uv
          simp at EV
          clear uv
          go_wp2
          go_roundw
          case rel => exact ⟨j + 1, zs.set j (modI x), hv, by omega, by go_num, by unfold Hid; rw [hzz.out, map_set_step _ _ _ _ hx.out], by unfold Hid; rw [List.length_set]; exact hzl.out, ov, EV⟩
          case measure => simp [intOf]; omega
        · obtain rfl : j = ys.length := by omega
          have HM : Hid (zs = ys.map modI) := by unfold Hid; rw [hzz.out, List.drop_length, List.append_nil, List.take_length]
          clear hzz hlt
          have bX : BdL 1000000000 ax := by rw [HX.out]; exact modL_bd _
          have bY : BdL 1000000000 zs := by rw [HM.out]; exact modL_bd _
          have lX : ax.length ≤ 100 := by rw [HXL.out]; omega
          have lY : zs.length ≤ 100 := by rw [hzl.out]; omega
          obtain ⟨AL, hAL⟩ : ∃ AL, fxAdd (ax ++ zs) = AL := ⟨_, rfl⟩
          have HAL := Lib.hid hAL
          clear hAL HX HM
          go_wp2_with fail
          refine (Itm.add E (E.sub 0 rfl) (E.sub 1 rfl) oX.sl oz.sl lX lY bX bY _ _ HXL.out hzl.out HAL.out).mono ?_
          rintro e w8 ⟨C8, n8, h8, rfl, o8, F1⟩
          simp at F1
          go_wp2_with fail
          refine (Itm.refAdd F1 (F1.sub 0 rfl) (F1.sub 1 rfl) oX.sl oz.sl lX lY bX bY _ _ HXL.out hzl.out HAL.out).mono ?_
          rintro e w9 ⟨C9, n9, h9, rfl, o9, F2⟩
          simp at F2
          go_wp2_with fail
          refine (Itm.same F2 (F2.sub 2 rfl) (F2.sub 3 rfl) o8.sl o9.sl _ _ rfl rfl rfl).mono ?_
          rintro e w10 ⟨rfl, F3⟩
          go_wp2_with fail
          refine (wakes25 _).mono ?_
          rintro e w11 ⟨rfl, B11⟩
          go_wp2
          go_ret
          exact ⟨rfl, (F3.below B11).low⟩
end Go.Proofs.Ytdcfojohgcmpcaa
end
