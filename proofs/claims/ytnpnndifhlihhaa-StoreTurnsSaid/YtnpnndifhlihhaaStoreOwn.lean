/- The walks of store.own and store.Journals. -/
import Derived.Test.YtnpnndifhlihhaaTyJou
import Derived.Test.YtnpnndifhlihhaaCloneLine
namespace Go.Proofs.Ytnpnndifhlihhaa
open Go.RowKit Go.Sl
set_option maxHeartbeats 1000000
set_option maxRecDepth 100000
theorem own_calls (x : SJ) (B : Option Addr) (cb : Nat) (h : Hp) (w : World) (hs : h.sub w) (sx : Sl kItem h B cb x.lines) (hl : x.lines.length ≤ 1000000) :
    Calls Try.prog 66 #[.agg #[.int .i64 x.seq, .string x.ent, .int .i64 x.period, .int .i64 x.kind, .int .i64 x.of, .slice B x.lines.length cb]] w fun e w' => ∃ C cap h', e = .returned (.agg #[.int .i64 x.seq, .string x.ent, .int .i64 x.period, .int .i64 x.kind, .int .i64 x.of, .slice C x.lines.length cap]) ∧ Ow kItem h' C cap x.lines ∧ Upd Hp.none h' w w' := by
  go_enter Try.func66, Try.ntmps66
  go_wp2_with fail
  refine (clone_line B cb x.lines h _ (hs.of_below (by repeat (first | exact Below.refl _ _ | apply Below.drew | refine Below.alloc ?_ (by simp) _))) sx hl).mono ?_
  rintro e w1 ⟨C, cap, h1, rfl, o1, u1⟩
  have k1 : w1.heap[w.heap.size]? = some (.cells #[.int .i64 x.seq, .string x.ent, .int .i64 x.period, .int .i64 x.kind, .int .i64 x.of, .slice B x.lines.length cb] 70) := (u1.below.block _ (by simp; omega)).trans ((heap_old_at (by simp)).trans (heap_new_at rfl))
  have k2 : w1.heap[w.heap.size + 1]? = some (.cells #[.int .i64 0, .string ⟨#[]⟩, .int .i64 0, .int .i64 0, .int .i64 0, .slice none 0 0] 70) := (u1.below.block _ (by simp)).trans (heap_new_at (by simp))
  have n1 := Lib.hid (u1.new_none (b := w.heap.size) (by simp; omega))
  have n2 := Lib.hid (u1.new_none (b := w.heap.size + 1) (by simp))
  have c0 : w1.cell? ⟨w.heap.size, 0, none⟩ = some (.int .i64 x.seq) := by rw [cell_of_row w1 _ 0 _ _ _ k1]; rfl
  have c1 : w1.cell? ⟨w.heap.size, 1, none⟩ = some (.string x.ent) := by rw [cell_of_row w1 _ 1 _ _ _ k1]; rfl
  have c2 : w1.cell? ⟨w.heap.size, 2, none⟩ = some (.int .i64 x.period) := by rw [cell_of_row w1 _ 2 _ _ _ k1]; rfl
  have c3 : w1.cell? ⟨w.heap.size, 3, none⟩ = some (.int .i64 x.kind) := by rw [cell_of_row w1 _ 3 _ _ _ k1]; rfl
  have c4 : w1.cell? ⟨w.heap.size, 4, none⟩ = some (.int .i64 x.of) := by rw [cell_of_row w1 _ 4 _ _ _ k1]; rfl
  have c5 : w1.cell? ⟨w.heap.size, 5, none⟩ = some (.slice B x.lines.length cb) := by rw [cell_of_row w1 _ 5 _ _ _ k1]; rfl
  have cf : ∀ n, w1.frozen? ⟨w.heap.size, n, none⟩ = false := fun n => frozen_of_row w1 _ n _ _ k1
  have d0 : w1.cell? ⟨w.heap.size + 1, 0, none⟩ = some (.int .i64 0) := by rw [cell_of_row w1 _ 0 _ _ _ k2]; rfl
  have d1 : w1.cell? ⟨w.heap.size + 1, 1, none⟩ = some (.string ⟨#[]⟩) := by rw [cell_of_row w1 _ 1 _ _ _ k2]; rfl
  have d2 : w1.cell? ⟨w.heap.size + 1, 2, none⟩ = some (.int .i64 0) := by rw [cell_of_row w1 _ 2 _ _ _ k2]; rfl
  have d3 : w1.cell? ⟨w.heap.size + 1, 3, none⟩ = some (.int .i64 0) := by rw [cell_of_row w1 _ 3 _ _ _ k2]; rfl
  have d4 : w1.cell? ⟨w.heap.size + 1, 4, none⟩ = some (.int .i64 0) := by rw [cell_of_row w1 _ 4 _ _ _ k2]; rfl
  have d5 : w1.cell? ⟨w.heap.size + 1, 5, none⟩ = some (.slice none 0 0) := by rw [cell_of_row w1 _ 5 _ _ _ k2]; rfl
  have df : ∀ n, w1.frozen? ⟨w.heap.size + 1, n, none⟩ = false := fun n => frozen_of_row w1 _ n _ _ k2
  clear k1 k2
  have u : Upd Hp.none h1 w w1 := u1.before (by repeat (first | exact Below.refl _ _ | apply Below.drew | refine Below.alloc ?_ (by simp) _))
  clear u1
  go_wp2
  exact bodyPost_ret (v := .agg #[.int .i64 x.seq, .string x.ent, .int .i64 x.period, .int .i64 x.kind, .int .i64 x.of, .slice C x.lines.length cap]) (by simp [results, Try.results66, go_sem, d0, d1, d2, d3, d4, d5]) rfl ⟨C, cap, h1, rfl, o1, (((((((u.setNew (by simp) n1.out).setNew (by simp) n2.out).setNew (by simp) n2.out).setNew (by simp) n2.out).setNew (by simp) n2.out).setNew (by simp) n2.out).setNew (by simp) n2.out)⟩
theorem journals_calls (p : Nat) (A : Option Addr) (ca : Nat) (js : List SJ) (h : Hp) (w : World) (hs : h.sub w) (hc : w.cell? ⟨p, 0, none⟩ = some (.slice A js.length ca)) (sx : Sl kJ h A ca js) (hl : js.length ≤ 1000000) (hll : ∀ x ∈ js, x.lines.length ≤ 1000000) :
    Calls Try.prog 40 #[.pointer (some ⟨p, 0, none⟩)] w fun e w' => ∃ C cap h', e = .returned (.slice C js.length cap) ∧ Ow kJ h' C cap js ∧ Upd Hp.none h' w w' := by
  have m1 := sx.small
  go_enter Try.func40, Try.ntmps40
  go_wp2
  go_loopw [3, 11] (fun v i wr => ∃ (j cap : Nat) (C : Option Addr) (h' : Hp), j ≤ js.length ∧ i = .int .i64 j ∧ v = .slice C j cap ∧ Hid (Ow kJ h' C cap (js.take j)) ∧ Upd Hp.none h' w wr) (fun _ i _ => js.length - (intOf i).toNat)
  case atStart => exact ⟨0, 0, none, Hp.none, by omega, rfl, rfl, Ow.none _ _, Upd.of_below (Below.refl _ _)⟩
  case round =>
    obtain ⟨j, cap, C, h', hj, rfl, rfl, ho, hu⟩ := hrel
    have HL : Hid ((js.take j).length = j) := by unfold Hid; simp; omega
    by_cases hlt : j < js.length
    · obtain ⟨x, hx⟩ := some_of_lt hlt
      obtain ⟨b1, o1, B, cb, rfl, sl, c1, c2, c3, c4, c5, c6⟩ := sx.jou (hs.of_below hu.below) hx
      have i1 : (0 : Int) ≤ (j : Int) := by omega
      have i2 : (j : Int) < (js.length : Int) := by omega
      have hxl := hll x (List.mem_of_getElem? hx.out)
      have HT : Hid (js.take (j + 1) = js.take j ++ [x]) := Lib.hid (take_next hx)
      have OC := fun W (hW : Below wr.heap.size wr W) => own_calls x B cb h W ((hs.of_below hu.below).of_below hW) sl hxl
      go_wp2_with (first
        | (go_at_call 66; refine (OC _ (by repeat (first | exact Below.refl _ _ | apply Below.drew | refine Below.alloc ?_ (by simp) _))).mono ?_; rintro e w2 ⟨C2, cap2, h2, rfl, o2, u2⟩)
        | (at_builtin; refine wpList_app1 (hx := h2) Try.underlying64 info_jou (by rfl) (by rfl) rfl j 1 (by rfl) (by rfl) HL.out ho.out ((hu.sub.of_below ((u2.before (by repeat (first | exact Below.refl _ _ | apply Below.drew | refine Below.alloc ?_ (by simp) _))).below)).of_below (by repeat (first | exact Below.refl _ _ | apply Below.drew | refine Below.alloc ?_ (by simp) _))) (heap_new_at (by simp)) ⟨C2, cap2, rfl, o2⟩ (u2.sub.of_below (by repeat (first | exact Below.refl _ _ | apply Below.drew | refine Below.alloc ?_ (by simp) _))) (u2.apart (fun _ e => absurd rfl e) (hu.sub.of_below (by repeat (first | exact Below.refl _ _ | apply Below.drew | refine Below.alloc ?_ (by simp) _)))).symm (by omega) (by omega) ?_; intro C' cap' w3 h3 ho3 hu3))
      go_roundw
      case rel => exact ⟨j + 1, cap', C', h3, by omega, by go_num, rfl, by rw [HT.out]; exact ho3, hu.trans (Upd.eat ((u2.before (by repeat (first | exact Below.refl _ _ | apply Below.drew | refine Below.alloc ?_ (by simp) _))).after (by repeat (first | exact Below.refl _ _ | apply Below.drew | refine Below.alloc ?_ (by simp) _))) hu3)⟩
      case measure => simp [intOf]; omega
    · obtain rfl : j = js.length := by omega
      rw [List.take_length] at ho
      go_wp2
      go_ret
      exact ⟨C, cap, h', rfl, ho.out, hu⟩
end Go.Proofs.Ytnpnndifhlihhaa
