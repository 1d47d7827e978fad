/- Walks and plain facts that the laws of this seat share, part 3: contracts of functions, each said at its theorem. -/
import Derived.Test.YtdcfojohgcmpcaaPk2
import Derived.Shelf.Abstract
import Derived.Laws.CopyRow
import Derived.Lib.BufferMore
import Derived.Test.YtdcfojohgcmpcaaChecked
import Derived.Shelf.Small.Strs
import Derived.Deep.QuietTactic
import Derived.Deep.RegionHeld3
set_option linter.all false
section
/- slices.SortFunc over cross.Row, whatever the order. -/
namespace Go.Sl
instance : Inhabited SPair := ⟨⟨⟨#[]⟩, ⟨#[]⟩, 0⟩⟩
end Go.Sl
namespace Go.Proofs.Ytdcfojohgcmpcaa
open Go.RowKit Go.Sl Go.Sort
set_option maxHeartbeats 1000000
set_option maxRecDepth 100000
theorem ins0_crow (p : Option Addr) (cap : Nat) (fv : Value) (w : World) : Calls Try.prog 141 #[.slice p 0 cap, .int .i64 0, .int .i64 0, fv] w fun e w' => e = .returned (.tuple #[]) ∧ w = w' := by
  go_enter Try.func141, Try.ntmps141
  go_wp2
  go_loop [8] (fun i => i = .int .i64 1) (fun _ => 0)
  case atStart => exact rfl
  case round =>
    obtain rfl := hrel
    go_wp2
    go_end0
    exact ⟨rfl, rfl⟩
theorem pdq0_crow (p : Option Addr) (cap : Nat) (lim : Int) (fv : Value) (w : World) : Calls Try.prog 112 #[.slice p 0 cap, .int .i64 0, .int .i64 0, .int .i64 lim, fv] w fun e w' => e = .returned (.tuple #[]) ∧ w = w' := by
  go_enter Try.func112, Try.ntmps112
  go_wp2
  go_loop [10, 1, 2] (fun b x y => b = .bool true ∧ x = .int .i64 0 ∧ y = .int .i64 0) (fun _ _ _ => 0)
  case atStart => exact ⟨rfl, rfl, rfl⟩
  case round =>
    obtain ⟨rfl, rfl, rfl⟩ := hrel
    go_wp2_with fail
    refine (ins0_crow p cap fv w).mono ?_
    rintro e w' ⟨rfl, rfl⟩
    go_wp2
    exact bodyPost_ret (v := .tuple #[]) (by simp [results, Try.results112, go_sem]) rfl ⟨rfl, rfl⟩
theorem sortNone_crow (p : Option Addr) (cap : Nat) (fv : Value) (w : World) : Calls Try.prog 79 #[.slice p 0 cap, fv] w fun e w' => e = .returned (.tuple #[]) ∧ w = w' := by
  have hl : ∀ W, Calls Try.prog 109 #[.int .u64 0] W fun e w' => e = .returned (.int .i64 (Go.Lib.bitLen 0 : Nat)) ∧ w' = W := fun W =>
    Go.Proofs.Any.bits_Len (Go.Proofs.SlLaysF0.n15.bits (P := Try.prog) (ρ := Try.sortCrow_ren) { Try.sortCrow with }) 0 W (by omega) (by omega)
  go_enter Try.func79, Try.ntmps79
  go_wp2_with fail
  refine (hl _).mono ?_
  rintro e w' ⟨rfl, rfl⟩
  go_wp2_with fail
  refine (pdq0_crow p cap _ fv _).mono ?_
  rintro e w' ⟨rfl, rfl⟩
  go_wp2
  go_end0
  exact ⟨rfl, rfl⟩
theorem sortFunc_crow {κ : Type} [DecidableEq κ] (od : Go.Sl.Ord κ) (key : SPair → κ) (cf : SPair → SPair → Int) (hlt : ∀ x y, Go.Proofs.ltOf cf x y = od.lt (key x) (key y)) (g : FuncId) (eg : Enters Try.prog g)
    (hc : ∀ (x y : SPair) (W : World), Calls Try.prog g #[.agg #[.string x.s, .string x.b, .int .i64 x.amt], .agg #[.string y.s, .string y.b, .int .i64 y.amt]] W fun e W' => e = .returned (.int .i64 (cf x y)) ∧ ∃ q os', W' = grow (W.drewN q) os')
    (A : Option Addr) (ca : Nat) (rows : List SPair) (h : Hp) (w : World) (hs : h.sub w) (o : Ow kPair h A ca rows) (hn : rows.Pairwise fun x y => key x ≠ key y) (hl : rows.length ≤ 1000000) :
    Calls Try.prog 79 #[.slice A rows.length ca, .func (.func g) #[] #[]] w fun e w' => ∃ h', e = .returned (.tuple #[]) ∧ Ow kPair h' A ca (isort od key rows) ∧ Upd h h' w w' := by
  by_cases h0 : 0 < rows.length
  · obtain ⟨ad, hA⟩ := o.some_of_lt h0
    obtain ⟨b, off, cur, T, e, hbk, _, _⟩ := o.row ad hA (by have := o.le; omega)
    subst e
    subst hA
    have hH := o.holds hs h0
    have hblk : b < w.heap.size := hs.lt (by simp [hbk])
    have hcmp : Go.Proofs.CmpLays Try.prog g #[] SPair.cells 3 cf b off rows.toArray.size w := fun _ _ _ _ x y => hc x y _
    have key' := Go.Proofs.AnyQ.slices_SortFunc Try.sortCrow 3 (fun w => by kernel_rfl) (fun w => by kernel_rfl) SPair.cells (fun _ => rfl) (fun x v hv => by simp [SPair.cells] at hv; rcases hv with rfl | rfl | rfl <;> rfl) cf (swo_ord od key _ hlt) g #[] b off ca rows.toArray w eg hcmp hH hblk (by simp; omega)
    refine key'.mono ?_
    rintro e w' ⟨he, d, n, os, hp, hso, hw⟩
    have hd : d.size = rows.length := by simpa using hp.1
    obtain ⟨h', o', u'⟩ := o.sorted hs h0 hd hw
    rw [isort_of hn hlt (by simpa using hp) (by simpa using hso)] at o'
    exact ⟨h', he, o', u'⟩
  · have hz0 : rows = [] := List.eq_nil_of_length_eq_zero (by omega)
    subst hz0
    exact (sortNone_crow A ca _ w).mono fun _ _ ⟨he, hw⟩ => ⟨h, he, o, by subst hw; exact Upd.stay hs (Below.refl _ _)⟩
end Go.Proofs.Ytdcfojohgcmpcaa
end
section
/- slices.IndexFunc over cross.Row, whatever the predicate. -/
namespace Go.Proofs.Ytdcfojohgcmpcaa
open Go.RowKit Go.Sl
set_option maxHeartbeats 1000000
set_option maxRecDepth 100000
theorem indexFunc_crow (g : FuncId) (lb : Array Value) (eg : Enters Try.prog g) (p : SPair → Bool) (A : Option Addr) (ca : Nat) (xs : List SPair) (h : Hp) (w : World) (hs : h.sub w) (sx : Sl kPair h A ca xs)
    (hp : ∀ (x : SPair) (W : World), Below w.heap.size w W → Calls Try.prog g (#[.agg #[.string x.s, .string x.b, .int .i64 x.amt]] ++ lb) W fun e W' => e = .returned (.bool (p x)) ∧ Below W.heap.size W W') :
    Calls Try.prog 77 #[.slice A xs.length ca, .func (.func g) #[] lb] w fun e w' => e = .returned (.int .i64 (idx p xs)) ∧ Below w.heap.size w w' := by
  have m1 := sx.small
  have eg' := fun (args : Array Value) (w : World) => eg args w
  go_enter Try.func77, Try.ntmps77
  go_wp2
  go_loopw [8] (fun i wr => ∃ (j : Nat), j ≤ xs.length ∧ i = .int .i64 j ∧ Hid (∀ y ∈ xs.take j, p y = false) ∧ Below w.heap.size w wr) (fun i _ => xs.length - (intOf i).toNat)
  case atStart => exact ⟨0, by omega, rfl, by unfold Hid; simp, Below.refl _ _⟩
  case round =>
    obtain ⟨j, hj, rfl, hn, hb⟩ := hrel
    by_cases hlt : j < xs.length
    · obtain ⟨x, hx⟩ := some_of_lt hlt
      obtain ⟨b1, o1, rfl, c1, c2, c3⟩ := sx.pair (hs.of_below hb) hx
      have i1 : (0 : Int) ≤ (j : Int) := by omega
      have i2 : (j : Int) < (xs.length : Int) := by omega
      have hpx := Lib.hid (hp x wr hb)
      by_cases hpp : p x = true
      · have HF : Hid (idx p xs = j) := idx_hit hn.out hx.out hpp
        go_wp2_with fail
        refine hpx.out.mono ?_
        rintro e w1 ⟨rfl, b1⟩
        go_wp2
        go_ret
        exact ⟨by rw [HF.out]; rfl, hb.trans (b1.mono hb.size)⟩
      · have hpf : p x = false := by simpa using hpp
        have HN : Hid (∀ y ∈ xs.take (j + 1), p y = false) := by
          intro y hy
          rw [take_next hx] at hy
          rcases List.mem_append.1 hy with hy | hy
          · exact hn.out y hy
          · simp at hy; subst hy; exact hpf
        clear hpp
        go_wp2_with fail
        refine hpx.out.mono ?_
        rintro e w1 ⟨rfl, b1⟩
        go_wp2
        go_roundw
        case rel => exact ⟨j + 1, by omega, by go_num, HN, hb.trans (b1.mono hb.size)⟩
        case measure => simp [intOf]; omega
    · have HF : Hid (idx p xs = -1) := idx_miss (fun y hy => hn.out y (by rw [List.take_of_length_le (by omega)]; exact hy))
      go_wp2
      go_ret
      exact ⟨by rw [HF.out]; rfl, hb⟩
end Go.Proofs.Ytdcfojohgcmpcaa
end
section
/- clear of the rest of an owned slice; elements moved to the front. No program is named here. -/
namespace Go.Sl
open Go Go.RowKit
section
variable {P : Program} {α : Type} {k : Kd α} {h : Hp} {b off cap : Nat} {xs : List α} {w : World}
/-- A row that stands in its first m elements. -/
theorem Ow.rowTake {E : TypeId} {cur cur' : Array Value} (o : Ow k h (some ⟨b, off, .none⟩) cap xs) (s : h.sub w) (h0 : 0 < cap) (hb : h b = some (.cells cur E (0, 0))) (hsz : cur'.size = cur.size) {m : Nat} (hm : m ≤ xs.length)
    (hc : ∀ q, q < off + m * k.size → cur'[q]? = cur[q]?) : ∃ h', Ow k h' (some ⟨b, off, .none⟩) cap (xs.take m) ∧ Upd h h' w (w.setRow b cur') := by
  obtain ⟨b', off', cur0, E0, e, hb0, hsz0, hrow⟩ := o.row _ rfl h0
  cases e
  rw [hb] at hb0
  cases hb0
  have hbw := s b _ hb
  have hdel : (h.put b (.cells cur' E (0, 0))).del b = h.del b := by
    funext q; simp only [Hp.del, Hp.put]; split <;> simp_all
  refine ⟨h.put b (.cells cur' E (0, 0)), ⟨by have := o.le; rw [List.length_take]; omega, o.max, o.nil, ?_⟩, rfl, rfl, rfl, by simp, fun q hq hn => setRow_other w b q _ (fun e => by rw [e, hb] at hn; cases hn), ?_, ?_⟩
  · rintro ad ⟨⟩ _
    refine ⟨b, off, _, E, rfl, if_pos rfl, by rw [hsz]; exact hsz0, fun i x hx => ?_⟩
    rw [hdel]
    rw [List.getElem?_take] at hx
    split at hx
    · rename_i hi
      obtain ⟨cs, hK, hcs⟩ := hrow i x hx
      refine ⟨cs, hK, fun j u hu => ?_⟩
      have hj : j < k.size := by rw [← k.len hK]; exact (List.getElem?_eq_some_iff.1 hu).1
      have h1 : (i + 1) * k.size ≤ m * k.size := Nat.mul_le_mul_right _ hi
      rw [Nat.add_mul] at h1
      rw [hc _ (by omega)]
      exact hcs j u hu
    · cases hx
  · intro q o' e'
    simp only [Hp.put] at e'
    split at e'
    · rename_i hq; cases e'; rw [hq]; exact setRow_heap w b cur _ E _ hbw
    · rename_i hq; rw [setRow_other w b q _ hq]; exact s q o' e'
  · intro q hq
    left
    simp only [Hp.put] at hq
    split at hq
    · rename_i h2; rw [h2, hb]; simp
    · exact hq
theorem run_clear_none {t e ty : TypeId} {A : Option Addr} {c : Nat} (ht : P.underlying t = some (.slice e)) (w : World) : (Builtin.clear_ #[t] ty #[.slice A 0 c]).run P w = .ok (.tuple #[]) w := by
  cases A <;> simp [Builtin.clear_, run_underlying ht]
theorem run_clear_rest {t e ty : TypeId} {z : Value} (ht : P.underlying t = some (.slice e)) (hv : ∀ w, (zeroValue e).run P w = .ok z w) (hz : z.cells.size = k.size) (hz1 : ∀ u ∈ z.cells.toList, u.oneCell' = true)
    (o : Ow k h (some ⟨b, off, .none⟩) cap xs) (s : h.sub w) {i : Nat} (hi : i < xs.length) (c : Nat) :
    ∃ w' h', (Builtin.clear_ #[t] ty #[.slice (some ⟨b, off + i * k.size, .none⟩) (xs.length - i) c]).run P w = .ok (.tuple #[]) w' ∧ Ow k h' (some ⟨b, off, .none⟩) cap (xs.take i) ∧ Upd h h' w w' := by
  have hcap := o.le
  obtain ⟨b', off', cur, E, e, hb, hsz, hrow⟩ := o.row _ rfl (by omega)
  cases e
  have hbw := s b _ hb
  generalize hzs : (Builtin.zeroCells z.cells (xs.length - i)).toList = zs
  have hlen : zs.length = (xs.length - i) * k.size := by rw [← hzs]; simp [Builtin.zeroCells, hz]
  have hz2 : ∀ u ∈ zs, u.oneCell' = true := by
    intro u hu
    rw [← hzs] at hu
    simp only [Builtin.zeroCells, Array.toList_map, List.mem_map] at hu
    obtain ⟨q, hq, rfl⟩ := hu
    have hp : 0 < z.cells.size := by rw [hz]; exact k.pos
    have hlt : q % z.cells.size < z.cells.size := Nat.mod_lt _ hp
    rw [getElem!_pos z.cells _ hlt]
    exact hz1 _ (by simp)
  have hmul : (xs.length - i) * k.size = xs.length * k.size - i * k.size := Nat.sub_mul _ _ _
  have hle1 : i * k.size ≤ xs.length * k.size := Nat.mul_le_mul_right _ (by omega)
  have hle2 : xs.length * k.size ≤ cap * k.size := Nat.mul_le_mul_right _ hcap
  have hst := run_storeCells_at P b (off + i * k.size) E zs 0 cur w hbw (by rw [hlen]; omega) hz2
  simp only [Nat.add_zero] at hst
  obtain ⟨h', o', u'⟩ := o.rowTake (cur' := (cur.toList.take (off + i * k.size) ++ zs ++ cur.toList.drop (off + i * k.size + zs.length)).toArray) s (by omega) hb (by simp; omega) (m := i) (by omega) (fun q hq => by
    rw [List.getElem?_toArray, List.append_assoc, List.getElem?_append_left (by rw [List.length_take, Array.length_toList]; omega), List.getElem?_take, if_pos hq]; simp)
  obtain ⟨m, hm⟩ : ∃ m, xs.length - i = m + 1 := ⟨xs.length - i - 1, by omega⟩
  rw [hm] at hzs ⊢
  exact ⟨_, h', by simp [Builtin.clear_, run_underlying ht, hv, hzs, hst], o', u'⟩
end
theorem filter_take_next {α : Type} {p : α → Bool} {xs : List α} {j : Nat} {x : α} (h : Hid (xs[j]? = some x)) : (xs.take (j + 1)).filter p = (xs.take j).filter p ++ (if p x then [x] else []) := by
  rw [take_next h, List.filter_append]
  congr 1
  cases hp : p x <;> simp [hp]
end Go.Sl
end
section
/- slices.DeleteFunc over cross.Row, whatever the predicate. -/
namespace Go.Proofs.Ytdcfojohgcmpcaa
open Go.RowKit Go.Sl
set_option maxHeartbeats 1000000
set_option maxRecDepth 100000
theorem deleteFunc_crow (g : FuncId) (lb : Array Value) (eg : Enters Try.prog g) (p : SPair → Bool) (A : Option Addr) (ca : Nat) (xs : List SPair) (h : Hp) (w : World) (hs : h.sub w) (o : Ow kPair h A ca xs) (hl : xs.length ≤ 1000000)
    (hp : ∀ (x : SPair) (W : World) (k : Hp), Upd h k w W → Calls Try.prog g (#[.agg #[.string x.s, .string x.b, .int .i64 x.amt]] ++ lb) W fun e W' => e = .returned (.bool (p x)) ∧ Below W.heap.size W W') :
    Calls Try.prog 78 #[.slice A xs.length ca, .func (.func g) #[] lb] w fun e w' => ∃ h', e = .returned (.slice A (xs.filter fun x => !p x).length ca) ∧ Ow kPair h' A ca (xs.filter fun x => !p x) ∧ Upd h h' w w' := by
  have m1 := o.small
  have eg' := fun (args : Array Value) (w : World) => eg args w
  have IC := indexFunc_crow g lb eg p A ca xs h w hs o.sl (fun x W hW => hp x W h (Upd.stay hs hW))
  by_cases hany : xs.any p = true
  · have hlt : xs.findIdx p < xs.length := List.findIdx_lt_length.2 (List.any_eq_true.1 hany)
    obtain ⟨x0, hx0⟩ := some_of_lt hlt
    have hp0 : p x0 = true := by
      have := List.findIdx_getElem (w := hlt); rw [(List.getElem?_eq_some_iff.1 hx0.out).2] at this; exact this
    have hn0 : ∀ y ∈ xs.take (xs.findIdx p), p y = false := fun y hy => by
      obtain ⟨q, hq, rfl⟩ := List.mem_take_iff_getElem.1 hy
      have := List.not_of_lt_findIdx (show q < xs.findIdx p by omega)
      simpa using this
    have hF : idx p xs = (xs.findIdx p : Nat) := by unfold idx; rw [if_pos hany]
    rw [hF] at IC
    have hS : Hid ((xs.take (xs.findIdx p)) = (xs.take (xs.findIdx p + 1)).filter fun x => !p x) := by
      unfold Hid
      rw [filter_take_next hx0, hp0]
      simp only [Bool.not_true, Bool.false_eq_true, if_false, List.append_nil]
      exact (List.filter_eq_self.2 fun y hy => by simp [hn0 y hy]).symm
    generalize xs.findIdx p = i0 at *
    obtain ⟨ad, hA⟩ := o.some_of_lt hlt
    obtain ⟨b, off, cur, T, e, hbk, _, _⟩ := o.row ad hA (by have := o.le; omega)
    subst e
    subst hA
    have i1 : (0 : Int) ≤ (i0 : Int) := by omega
    have i2 : (i0 : Int) < (xs.length : Int) := by omega
    have hq0 : ((i0 : Int) == -1) = false := by simp
    clear hany hx0 hp0 hn0 hF hbk
    go_enter Try.func78, Try.ntmps78
    go_wp2_with fail
    refine IC.mono ?_
    rintro e w1 ⟨rfl, b1⟩
    have E1 := Upd.stay hs b1
    clear IC
    go_wp2
    go_loopw [5, 6] (fun iv jv wr => ∃ (i j : Nat) (zs : List SPair) (h' : Hp), iv = .int .i64 i ∧ jv = .int .i64 j ∧ i < j ∧ j ≤ xs.length ∧ Hid (zs.length = xs.length) ∧ Hid (zs.take i = (xs.take j).filter fun x => !p x) ∧ Hid (∀ q, j ≤ q → zs[q]? = xs[q]?) ∧ Ow kPair h' (some ⟨b, off, none⟩) ca zs ∧ Upd h h' w wr) (fun _ jv _ => xs.length - (intOf jv).toNat)
    case atStart => exact ⟨i0, i0 + 1, xs, h, rfl, by go_num, by omega, by omega, rfl, hS, fun _ _ => rfl, o, E1⟩
    case round =>
      clear E1 hS i1 i2 hlt b1
      obtain ⟨i, j, zs, h', rfl, rfl, hij, hj, hzl, hzt, hzd, oz, uz⟩ := hrel
      by_cases hlt : j < xs.length
      · obtain ⟨x, hx⟩ := some_of_lt hlt
        have hzx : Hid (zs[j]? = some x) := by unfold Hid; rw [hzd.out j (Nat.le_refl _)]; exact hx.out
        obtain ⟨b1, o1, e1, c1, c2, c3⟩ := oz.sl.pair uz.sub hzx
        cases e1
        obtain ⟨y, hy⟩ := some_of_lt (show i < zs.length by rw [hzl.out]; omega)
        obtain ⟨_, _, e2, d1, d2, d3⟩ := oz.sl.pair uz.sub hy
        cases e2
        have hlz : i < zs.length := (List.getElem?_eq_some_iff.1 hy.out).1
        have hfr := oz.cell_free uz.sub (lt_of_some hy.out)
        have hb0 : b < wr.heap.size := World.block_lt_of_cell? _ _ c1
        have i1 : (0 : Int) ≤ (j : Int) := by omega
        have i2 : (j : Int) < (xs.length : Int) := by omega
        have i3 : (0 : Int) ≤ (i : Int) := by omega
        have i4 : (i : Int) < (xs.length : Int) := by omega
        have hpx := fun (W : World) (hW : Below wr.heap.size wr W) => hp x W h' (uz.after hW)
        have HT := Lib.hid (filter_take_next (p := fun x => !p x) hx)
        have ST : ∀ V : World, h'.sub V → ∃ k, Ow kPair k (some ⟨b, off, none⟩) ca (zs.set i x) ∧ Upd h' k V (((V.setCell ⟨b, off + i * 3, none⟩ (.string x.s)).setCell ⟨b, off + i * 3 + 1, none⟩ (.string x.b)).setCell ⟨b, off + i * 3 + 2, none⟩ (.int .i64 x.amt)) := fun V S => by
          obtain ⟨k1, p1, u1⟩ := Ow.set (x' := ⟨x.s, y.b, y.amt⟩) (v := .string x.s) (j := 0) oz S hy.out (by decide) rfl
          obtain ⟨k2, p2, u2⟩ := Ow.set (x' := ⟨x.s, x.b, y.amt⟩) (v := .string x.b) (j := 1) p1 (u1.sub) (List.getElem?_set_self hlz) (by decide) rfl
          obtain ⟨k3, p3, u3⟩ := Ow.set (x' := ⟨x.s, x.b, x.amt⟩) (v := .int .i64 x.amt) (j := 2) p2 (u2.sub) (List.getElem?_set_self (by simpa using hlz)) (by decide) rfl
          rw [List.set_set, List.set_set] at p3
          exact ⟨k3, p3, ((u1.trans u2).trans u3)⟩
        cases hpp : p x with
        | true =>
          rw [hpp] at hpx HT
          have HT2 : Hid ((xs.take (j + 1)).filter (fun x => !p x) = (xs.take j).filter fun x => !p x) := by unfold Hid; rw [HT.out]; simp
          clear hpp HT ST hlz hy hfr
          go_wp2_with fail
          refine (hpx _ (by repeat (first | exact Below.refl _ _ | apply Below.drew | refine Below.alloc ?_ (by simp) _))).mono ?_
          rintro e w2 ⟨rfl, b2⟩
          go_wp2
          go_roundw
          case rel => exact ⟨i, j + 1, zs, h', rfl, by go_num, by omega, by omega, hzl, by unfold Hid; rw [HT2.out]; exact hzt.out, fun q hq => hzd.out q (by omega), oz, uz.after (((Below.refl _ _).alloc (Nat.le_refl _) _).trans (b2.mono (by simp)))⟩
          case measure => simp [intOf]; omega
        | false =>
          rw [hpp] at hpx HT
          have HT2 : Hid ((xs.take (j + 1)).filter (fun x => !p x) = (xs.take j).filter (fun x => !p x) ++ [x]) := by unfold Hid; rw [HT.out]; simp
          have HZ : Hid ((zs.set i x).take (i + 1) = zs.take i ++ [x]) := by
            unfold Hid
            rw [take_next (xs := zs.set i x) (x := x) (show Hid ((zs.set i x)[i]? = some x) from List.getElem?_set_self hlz), List.take_set_of_le (Nat.le_refl _)]
          clear hpp HT hlz hy
          go_wp2_with fail
          refine (hpx _ (by repeat (first | exact Below.refl _ _ | apply Below.drew | refine Below.alloc ?_ (by simp) _))).mono ?_
          rintro e w2 ⟨rfl, b2⟩
          have hz2 := b2.size
          simp at hz2
          have bb := ((Below.refl wr.heap.size wr).alloc (Nat.le_refl _) (.cells #[.string x.s, .string x.b, .int .i64 x.amt] 27)).trans (b2.mono (by simp))
          have q1 : w2.cell? ⟨wr.heap.size, 0, none⟩ = some (.string x.s) := (b2.cell (by simp)).trans (by rw [cell_new rfl]; rfl)
          have q2 : w2.cell? ⟨wr.heap.size, 1, none⟩ = some (.string x.b) := (b2.cell (by simp)).trans (by rw [cell_new rfl]; rfl)
          have q3 : w2.cell? ⟨wr.heap.size, 2, none⟩ = some (.int .i64 x.amt) := (b2.cell (by simp)).trans (by rw [cell_new rfl]; rfl)
          have fr2 : ∀ n, w2.frozen? ⟨b, n, none⟩ = false := fun n => (bb.frozen (p := ⟨b, n, none⟩) hb0).trans (hfr n)
          have e1 : w2.cell? ⟨b, off + i * 3, none⟩ = some (.string y.s) := (bb.cell (p := ⟨b, off + i * 3, none⟩) hb0).trans d1
          have e2 : w2.cell? ⟨b, off + i * 3 + 1, none⟩ = some (.string y.b) := (bb.cell (p := ⟨b, off + i * 3 + 1, none⟩) hb0).trans d2
          have e3 : w2.cell? ⟨b, off + i * 3 + 2, none⟩ = some (.int .i64 y.amt) := (bb.cell (p := ⟨b, off + i * 3 + 2, none⟩) hb0).trans d3
          obtain ⟨k, ok, uk⟩ := ST w2 (uz.sub.of_below bb)
          go_wp2
          go_roundw
          case rel => exact ⟨i + 1, j + 1, _, k, by go_num, by go_num, by omega, by omega, by unfold Hid; rw [List.length_set]; exact hzl.out, by unfold Hid; rw [HZ.out, HT2.out, hzt.out], fun q hq => by rw [List.getElem?_set_ne (by omega)]; exact hzd.out q (by omega), ok, (uz.after bb).trans uk⟩
          case measure => simp [intOf]; omega
      · obtain rfl : j = xs.length := by omega
        rw [List.take_length] at hzt
        obtain ⟨w2, h2, hrun, o2, u2⟩ := run_clear_rest (P := Try.prog) (t := 24) (e := 27) (ty := 0) (z := .agg #[.string ⟨#[]⟩, .string ⟨#[]⟩, .int .i64 0]) Try.underlying24 (fun w => by kernel_rfl) (by rfl) (List.all_eq_true.1 (show ((.agg #[.string ⟨#[]⟩, .string ⟨#[]⟩, .int .i64 0] : Value).cells.toList.all fun u => u.oneCell') = true from rfl)) oz uz.sub (i := i) (by rw [hzl.out]; omega) (ca - i)
        rw [hzl.out, show kPair.size = 3 from rfl] at hrun
        rw [hzt.out] at o2
        have hcap := oz.le
        rw [hzl.out] at hcap
        have i1 : (0 : Int) ≤ (i : Int) := by omega
        have i2 : (i : Int) ≤ (xs.length : Int) := by omega
        have i3 : (i : Int) ≤ (ca : Int) := by omega
        have hne : ¬ ca = i := by omega
        have hL : Hid ((xs.filter fun x => !p x).length = i) := by
          unfold Hid; rw [← hzt.out, List.length_take, hzl.out]; omega
        clear hlt
        go_wp2
        go_ret
        exact ⟨h2, by rw [hL.out]; rfl, o2, uz.trans u2⟩
  · have hn : ∀ y ∈ xs, p y = false := fun y hy => by
      cases e : p y with
      | false => rfl
      | true => exact absurd (List.any_eq_true.2 ⟨y, hy, e⟩) hany
    have hF : idx p xs = -1 := idx_miss hn
    have hfl : Hid ((xs.filter fun x => !p x) = xs) := List.filter_eq_self.2 fun y hy => by simp [hn y hy]
    rw [hF] at IC
    clear hany hF hn
    go_enter Try.func78, Try.ntmps78
    go_wp2_with fail
    refine IC.mono ?_
    rintro e w1 ⟨rfl, b1⟩
    go_wp2
    go_ret
    exact ⟨h, by rw [hfl.out]; rfl, by rw [hfl.out]; exact o, Upd.stay hs b1⟩
end Go.Proofs.Ytdcfojohgcmpcaa
end
section
/- slices.Clone over cross.Row. -/
namespace Go.Proofs.Ytdcfojohgcmpcaa
open Go.RowKit Go.Sl
set_option maxHeartbeats 1000000
set_option maxRecDepth 100000
theorem clone_crow (A : Option Addr) (ca : Nat) (xs : List SPair) (h : Hp) (w : World) (hs : h.sub w) (sx : Sl kPair h A ca xs) (hl : xs.length ≤ 1000000) :
    Calls Try.prog 83 #[.slice A xs.length ca] w fun e w' => ∃ C cap h', e = .returned (.slice C xs.length cap) ∧ Ow kPair h' C cap xs ∧ Upd Hp.none h' w w' := by
  cases A with
  | none =>
    have h0 := sx.nil rfl
    have h1 := sx.le
    obtain rfl : xs = [] := List.eq_nil_of_length_eq_zero (by omega)
    subst h0
    have hn : ∀ W, (binOp .eql 24 (.slice none 0 0) (.slice none 0 0)).run Try.prog W = .ok (.bool true) W := fun W => Lib.run_eql_slice_nil_nil W _ _ Try.underlying24
    go_enter Try.func83, Try.ntmps83
    go_wp2
    go_ret
    exact ⟨none, 0, Hp.none, rfl, Ow.none _ _, Upd.of_below (Below.refl _ _)⟩
  | some ad =>
    have hn : ∀ W, (binOp .eql 24 (.slice (some ad) xs.length ca) (.slice none 0 0)).run Try.prog W = .ok (.bool false) W := fun W => Lib.run_eql_slice_some_nil W _ _ _ Try.underlying24
    go_enter Try.func83, Try.ntmps83
    go_wp2_with (at_builtin; refine wpList_clone Try.underlying24 info_crow (by rfl) (by rfl) rfl xs.length ca (by rfl) (by rfl) rfl kPair_flat sx (hs.of_below (by repeat (first | exact Below.refl _ _ | apply Below.drew | refine Below.alloc ?_ (by simp) _))) (by omega) (by omega) ?_; intro C' cap' w1 h1 ho1 hu1)
    go_ret
    exact ⟨C', cap', h1, rfl, ho1, hu1.before (by repeat (first | exact Below.refl _ _ | apply Below.drew | refine Below.alloc ?_ (by simp) _))⟩
end Go.Proofs.Ytdcfojohgcmpcaa
end
section
/- The library's strings.Compare, laid at this program in plain words. -/
namespace Go.Proofs
open Go.Shelf
def Try.laysStrCmp_ren : Go.Shelf.Ren := ⟨fun | 106 => 82 | 213 => 113 | 265 => 149 | n => n, fun | 9 => 9 | 3 => 3 | n => n, fun | n => n⟩
theorem Try.laysStrCmp : Go.Proofs.Lays.n106 Try.prog Try.laysStrCmp_ren := {
  mixed := by kernel_rfl
  f106 := Try.func82.trans (congrArg some (by kernel_rfl))
  f213 := Try.func113.trans (congrArg some (by kernel_rfl))
  f265 := Try.func149.trans (congrArg some (by kernel_rfl))
  t3 := Try.underlying3
  a3 := Try.isAgg3
  z3 := Try.sizeOf3
  v3 := Try.zeroValue3
  t9 := Try.underlying9
  a9 := Try.isAgg9
  z9 := Try.sizeOf9
  v9 := Try.zeroValue9 }
open Go.RowKit in
/-- laid -/
theorem Try.strings_Compare (a b : ByteArray) (w : World) :
    Calls Try.prog 82 #[.string a, .string b] w fun e w' => e = .returned (.int .i64 (Lib.compareBytes a.data.toList b.data.toList)) ∧ w' = w := Any.strings_Compare Try.laysStrCmp a b w
end Go.Proofs
end
section
/- The walks of cmp.Compare and cmp.Or over whole numbers. -/
namespace Go.Sl
def cmpI (x y : Int) : Int := if x < y then -1 else if y < x then 1 else 0
def orI (a b : Int) : Int := if a = 0 then b else a
end Go.Sl
namespace Go.Proofs.Ytdcfojohgcmpcaa
open Go.RowKit Go.Sl
set_option maxHeartbeats 1000000
theorem nan_calls (x : Int) (w : World) : Calls Try.prog 110 #[.int .i64 x] w fun e w' => e = .returned (.bool false) ∧ w = w' := by
  go_enter Try.func110, Try.ntmps110
  go_wp2
  go_ret
  exact ⟨by simp, rfl⟩
theorem compare_calls (x y : Int) (w : World) : Calls Try.prog 73 #[.int .i64 x, .int .i64 y] w fun e w' => e = .returned (.int .i64 (cmpI x y)) ∧ w = w' := by
  rcases Int.lt_trichotomy x y with h | h | h
  · have HC : Hid (cmpI x y = -1) := if_pos h
    have t1 : decide (x < y) = true := by simpa using h
    clear h
    go_enter Try.func73, Try.ntmps73
    go_wp2_with (go_at_call 110; refine (nan_calls _ _).mono ?_; rintro e w' ⟨rfl, rfl⟩)
    go_ret
    exact ⟨by rw [HC.out]; rfl, rfl⟩
  · have HC : Hid (cmpI x y = 0) := by unfold Hid cmpI; rw [if_neg (by omega), if_neg (by omega)]
    have t1 : decide (x < y) = false := by simp; omega
    have t2 : decide (y < x) = false := by simp; omega
    clear h
    go_enter Try.func73, Try.ntmps73
    go_wp2_with (go_at_call 110; refine (nan_calls _ _).mono ?_; rintro e w' ⟨rfl, rfl⟩)
    go_ret
    exact ⟨by rw [HC.out]; rfl, rfl⟩
  · have HC : Hid (cmpI x y = 1) := by unfold Hid cmpI; rw [if_neg (by omega), if_pos h]
    have t1 : decide (x < y) = false := by simp; omega
    have t2 : decide (y < x) = true := by simpa using h
    clear h
    go_enter Try.func73, Try.ntmps73
    go_wp2_with (go_at_call 110; refine (nan_calls _ _).mono ?_; rintro e w' ⟨rfl, rfl⟩)
    go_ret
    exact ⟨by rw [HC.out]; rfl, rfl⟩
theorem or_calls (q : Nat) (a b : Int) (w : World) (c0 : w.cell? ⟨q, 0, none⟩ = some (.int .i64 a)) (c1 : w.cell? ⟨q, 1, none⟩ = some (.int .i64 b)) :
    Calls Try.prog 81 #[.slice (some ⟨q, 0, none⟩) 2 2] w fun e w' => e = .returned (.int .i64 (orI a b)) ∧ w = w' := by
  go_enter Try.func81, Try.ntmps81
  go_wp2
  go_loop [8] (fun i => ∃ j : Nat, j ≤ 2 ∧ i = .int .i64 j ∧ Hid (1 ≤ j → a = 0) ∧ Hid (2 ≤ j → b = 0)) (fun i => 2 - (intOf i).toNat)
  case atStart => exact ⟨0, by omega, rfl, by unfold Hid; omega, by unfold Hid; omega⟩
  case round =>
    obtain ⟨j, hj, rfl, h1, h2⟩ := hrel
    have hj3 : j = 0 ∨ j = 1 ∨ j = 2 := by omega
    rcases hj3 with rfl | rfl | rfl
    · by_cases ha : a = 0
      · have t : (a != 0) = false := by simpa using ha
        have HA : Hid (a = 0) := ha
        clear ha
        go_wp2
        go_round
        case rel => exact ⟨1, by omega, by go_num, fun _ => HA.out, by unfold Hid; omega⟩
        case measure => simp [intOf]
      · have t : (a != 0) = true := by simpa using ha
        have HO : Hid (orI a b = a) := if_neg ha
        clear ha
        go_wp2
        go_ret
        exact ⟨by rw [HO.out]; rfl, rfl⟩
    · have HA := Lib.hid (h1.out (by omega))
      by_cases hb : b = 0
      · have t : (b != 0) = false := by simpa using hb
        have HB : Hid (b = 0) := hb
        clear hb
        go_wp2
        go_round
        case rel => exact ⟨2, by omega, by go_num, fun _ => HA.out, fun _ => HB.out⟩
        case measure => simp [intOf]
      · have t : (b != 0) = true := by simpa using hb
        have HO : Hid (orI a b = b) := by unfold Hid orI; rw [if_pos HA.out]
        clear hb
        go_wp2
        go_ret
        exact ⟨by rw [HO.out]; rfl, rfl⟩
    · have HO : Hid (orI a b = 0) := by unfold Hid orI; rw [if_pos (h1.out (by omega))]; exact h2.out (by omega)
      go_wp2
      go_ret
      exact ⟨by rw [HO.out]; rfl, rfl⟩
end Go.Proofs.Ytdcfojohgcmpcaa
end
section
/- Small structs of a body's own, each in a block of its own. No program is named here. -/
namespace Go.Sl
open Go Go.RowKit
section
variable {h : Hp} {w0 w : World} {l : List Hp} {b : Nat} {cs : List Value} {T : TypeId}
abbrev Hp.box (b : Nat) (cs : List Value) (T : TypeId) : Hp := Hp.one b (.cells cs.toArray T (0, 0))
theorem Hp.none_put (b : Nat) (o : Obj) : Hp.none.put b o = Hp.one b o := by funext q; simp [Hp.put, Hp.one, Hp.none]
theorem Upd.oneSet (s : (Hp.box b cs T).sub w) (j : Nat) (v : Value) : Upd (Hp.box b cs T) (Hp.box b (cs.set j v) T) w (w.setCell ⟨b, j, .none⟩ v) := by
  have h := (Upd.field (h := Hp.box b cs T) (hr := Hp.none) (r' := Hp.none) (w1 := w) (v := v) j (Hp.one_self b _) s (Hp.none_le _) (Upd.of_below (Below.refl _ _))).1
  rw [Hp.none_put] at h; exact h
theorem Env.weak {k : Hp} (E : Env w0 w l) (i : Nat) (hi : l[i]? = some h) (hk : k.le h) : Env w0 w (l.set i k) := E.upd i hi ⟨rfl, rfl, rfl, Nat.le_refl _, fun _ _ _ => rfl, (E.sub i hi).le hk, fun q hq => .inl fun hn => by
  cases hh : k q with
  | none => exact hq hh
  | some o => rw [hk q o hh] at hn; cases hn⟩
/-- A field is stored. -/
theorem Env.cellset (E : Env w0 w l) (i : Nat) (hi : l[i]? = some (Hp.box b cs T)) (j : Nat) (v : Value) : Env w0 (w.setCell ⟨b, j, .none⟩ v) (l.set i (Hp.box b (cs.set j v) T)) := E.upd i hi (Upd.oneSet (E.sub i hi) j v)
theorem Env.cell (E : Env w0 w l) (i : Nat) (hi : l[i]? = some (Hp.box b cs T)) (j : Nat) {v : Value} (hv : cs[j]? = some v) : w.cell? ⟨b, j, .none⟩ = some v := by
  rw [cell_of_row w b j _ _ _ (E.sub i hi b _ (Hp.one_self b _))]; simpa using hv
theorem Env.free (E : Env w0 w l) (i : Nat) (hi : l[i]? = some (Hp.box b cs T)) (n : Nat) : w.frozen? ⟨b, n, .none⟩ = false := frozen_of_row w b n _ T (E.sub i hi b _ (Hp.one_self b _))
end
theorem Env.swap2 {w0 w : World} {a b c d : Hp} (E : Env w0 w [a, b, c, d]) : Env w0 w [a, b, d, c] :=
  ⟨⟨E.own.1, fun k hk => E.own.2.1 k (by simp at hk ⊢; rcases hk with h | h | h <;> simp [h]), E.own.2.2.1, fun k hk => E.own.2.2.2.1 k (by simp at hk ⊢; rcases hk with h | h <;> simp [h]), E.own.2.2.2.2.swap⟩, fun h m => E.fr h (by simp at m ⊢; rcases m with h | h | h | h <;> simp [h]), E.low⟩
theorem Below.drN {B : Nat} {a w : World} (h : Below B a w) (n : Nat) : Below B a (w.drewN n) := h.trans ⟨rfl, rfl, rfl, Nat.le_refl _, fun _ _ => rfl⟩
/-- What was made since the start. -/
theorem Env.made {w0 w : World} {l : List Hp} {h : Hp} (E : Env w0 w l) (m : h ∈ l) : Upd Hp.none h w0 w := ⟨E.low.os, E.low.tape, E.low.output, E.low.size, fun q hq _ => E.low.block q hq, E.own.mem h m, fun q hq => .inr (E.fr h m q hq)⟩
/-- A call that turns nothing, in a quiet region: the first one of a walk, or a later one. -/
theorem quiet_one {P : Program} {f : FuncId} {args : Array Value} {W : World} {n : Nat} {v : Value} (h : Calls P f args (W.drewN n) fun e w' => e = .returned v ∧ W.drewN n = w') :
    Calls P f args (W.drewN n) fun e w' => e = .returned v ∧ ∃ m, w' = W.drewN m := h.mono fun _ _ ⟨a, b⟩ => ⟨a, n, b.symm⟩
theorem quiet_more {P : Program} {f : FuncId} {args : Array Value} {W : World} {k n : Nat} {v : Value} (h : Calls P f args (W.drewN (k + n)) fun e w' => e = .returned v ∧ W.drewN (k + n) = w') :
    Calls P f args (W.drewN (k + n)) fun e w' => e = .returned v ∧ ∃ m, w' = W.drewN (k + m) := h.mono fun _ _ ⟨a, b⟩ => ⟨a, n, b.symm⟩
end Go.Sl
end
section
/- The walks of cross.New, Rows, Add. -/
namespace Go.Sl
open Go Go.RowKit
def cfPair (x y : SPair) : Int := orI (cmpS x.s y.s) (cmpS x.b y.b)
theorem lt_pair (x y : SPair) : Go.Proofs.ltOf cfPair x y = ordStr2.lt (pkey x) (pkey y) := by
  unfold Go.Proofs.ltOf cfPair orI
  simp only [ordStr2, pkey]
  rw [decide_eq_decide]
  have h1 : cmpS x.s y.s = 0 ↔ x.s = y.s := cmpS_eq
  have r1 : cmpS x.s y.s = -1 ∨ cmpS x.s y.s = 0 ∨ cmpS x.s y.s = 1 := cmpB_rng _ _
  have r2 : cmpS x.b y.b = -1 ∨ cmpS x.b y.b = 0 ∨ cmpS x.b y.b = 1 := cmpB_rng _ _
  rw [← h1]
  split <;> omega
end Go.Sl
namespace Go.Proofs.Ytdcfojohgcmpcaa
open Go.RowKit Go.Sl Go.Sort
set_option maxHeartbeats 2000000
set_option maxRecDepth 100000
theorem crossNew_calls (w : World) : Calls Try.prog 26 #[] w fun e w' => ∃ h b, e = .returned (.pointer (some ⟨b, 0, none⟩)) ∧ Pt (kOne kPair) 122 h b [] ∧ Upd Hp.none h w w' := by
  go_enter Try.func26, Try.ntmps26
  go_wp2
  go_ret
  exact ⟨_, _, rfl, ⟨_, Hp.one_self _ _, none, 0, rfl, Ow.none _ _⟩, Upd.newBlock w _⟩
theorem crossRows_calls (b : Nat) (l : List SPair) (h : Hp) (w : World) (hs : h.sub w) (p : Pt (kOne kPair) 122 h b l) (hl : l.length ≤ 1000000) :
    Calls Try.prog 28 #[.pointer (some ⟨b, 0, none⟩)] w fun e w' => ∃ C cap h', e = .returned (.slice C l.length cap) ∧ Ow kPair h' C cap l ∧ Upd Hp.none h' w w' := by
  obtain ⟨A, ca, hb, hc, ow, _⟩ := p.one hs
  have CC := clone_crow A ca l (h.del b) w (hs.del b) ow.sl hl
  go_enter Try.func28, Try.ntmps28
  go_wp2_with fail
  refine CC.mono ?_
  rintro e w1 ⟨C, cap, h1, rfl, o1, u1⟩
  go_wp2
  go_ret
  exact ⟨C, cap, h1, rfl, o1, u1⟩
theorem crossSame_calls (x : SPair) (b5 b6 : Nat) (s b : ByteArray) (W : World) (c5 : W.cell? ⟨b5, 0, none⟩ = some (.string s)) (c6 : W.cell? ⟨b6, 0, none⟩ = some (.string b)) :
    Calls Try.prog 76 #[.agg #[.string x.s, .string x.b, .int .i64 x.amt], .pointer (some ⟨b5, 0, none⟩), .pointer (some ⟨b6, 0, none⟩)] W fun e W' => e = .returned (.bool (isP s b x)) ∧ Below W.heap.size W W' := by
  have c5a := fun o => (cell_alloc (o := o) (World.block_lt_of_cell? _ _ c5)).trans c5
  have c6a := fun o => (cell_alloc (o := o) (World.block_lt_of_cell? _ _ c6)).trans c6
  have HI : isP s b x = decide (x.s = s ∧ x.b = b) := rfl
  generalize isP s b x = r at *
  by_cases h1 : x.s = s
  · have t1 : (x.s.toList == s.toList) = true := by rw [h1]; simp
    by_cases h2 : x.b = b
    · have t2 : (x.b.toList == b.toList) = true := by rw [h2]; simp
      have hr : Hid (r = true) := by unfold Hid; rw [HI]; simp [h1, h2]
      clear HI h1 h2
      go_enter Try.func76, Try.ntmps76
      go_wp2
      go_ret
      exact ⟨by rw [hr.out]; rfl, (by repeat (first | exact Below.refl _ _ | apply Below.drew | refine Below.alloc ?_ (by simp) _))⟩
    · have t2 : (x.b.toList == b.toList) = false := beq_eq_false_iff_ne.2 fun e => h2 (tl_inj e)
      have hr : Hid (r = false) := by unfold Hid; rw [HI]; simp [h2]
      clear HI h1 h2
      go_enter Try.func76, Try.ntmps76
      go_wp2
      go_ret
      exact ⟨by rw [hr.out]; rfl, (by repeat (first | exact Below.refl _ _ | apply Below.drew | refine Below.alloc ?_ (by simp) _))⟩
  · have t1 : (x.s.toList == s.toList) = false := beq_eq_false_iff_ne.2 fun e => h1 (tl_inj e)
    have hr : Hid (r = false) := by unfold Hid; rw [HI]; simp [h1]
    clear HI h1
    go_enter Try.func76, Try.ntmps76
    go_wp2
    go_ret
    exact ⟨by rw [hr.out]; rfl, (by repeat (first | exact Below.refl _ _ | apply Below.drew | refine Below.alloc ?_ (by simp) _))⟩
theorem crossCmp_calls (x y : SPair) (W : World) : Calls Try.prog 80 #[.agg #[.string x.s, .string x.b, .int .i64 x.amt], .agg #[.string y.s, .string y.b, .int .i64 y.amt]] W fun e W' => e = .returned (.int .i64 (cfPair x y)) ∧ ∃ q os', W' = grow (W.drewN q) os' := by
  have HC : Hid (cfPair x y = orI (cmpS x.s y.s) (cmpS x.b y.b)) := rfl
  generalize cfPair x y = r at *
  have C1 : ∀ W : World, Calls Try.prog 82 #[.string x.s, .string y.s] W fun e w' => e = .returned (.int .i64 (cmpS x.s y.s)) ∧ W = w' := fun W => (Try.strings_Compare x.s y.s W).mono fun _ _ ⟨a, b⟩ => ⟨a, b.symm⟩
  have C2 : ∀ W : World, Calls Try.prog 82 #[.string x.b, .string y.b] W fun e w' => e = .returned (.int .i64 (cmpS x.b y.b)) ∧ W = w' := fun W => (Try.strings_Compare x.b y.b W).mono fun _ _ ⟨a, b⟩ => ⟨a, b.symm⟩
  generalize cmpS x.s y.s = a at *
  generalize cmpS x.b y.b = b at *
  go_enter Try.func80, Try.ntmps80
  go_wp2
  go_region_held3 (fun w' => w'.cell? ⟨W.heap.size, 0, none⟩ = some (.string x.s) ∧ w'.cell? ⟨W.heap.size, 1, none⟩ = some (.string x.b) ∧ w'.cell? ⟨W.heap.size + 1, 0, none⟩ = some (.string y.s) ∧ w'.cell? ⟨W.heap.size + 1, 1, none⟩ = some (.string y.b))
    (go_keep)
    (first
      | (go_at_call 82; ((with_reducible refine (C1 _).mono ?_)); rintro e w' ⟨rfl, rfl⟩)
      | (go_at_call 82; ((with_reducible refine (C2 _).mono ?_)); rintro e w' ⟨rfl, rfl⟩)
      | (go_at_call 81; have OC := fun (V : World) (h0 : V.heap[W.heap.size + 1 + 1]? = some (.cells #[.int .i64 a, .int .i64 b] 3)) => or_calls (W.heap.size + 1 + 1) a b V (by rw [cell_of_row V _ 0 _ _ _ h0]; rfl) (by rw [cell_of_row V _ 1 _ _ _ h0]; rfl); refine (OC _ (by rw [show ∀ V : World, V.drew.heap = V.heap from fun _ => rfl]; exact heap_new_at (by simp))).mono ?_; rintro e w' ⟨rfl, rfl⟩)
      | fail)
  go_wp2
  go_ret
  exact ⟨by rw [HC.out]; rfl, 1, _, by rw [alloc_eq_grow, alloc_eq_grow, alloc_eq_grow]; simp only [grow_grow, drew_grow]; rfl⟩
end Go.Proofs.Ytdcfojohgcmpcaa
end
section
/- The walk of cross.Add. -/
namespace Go.Proofs.Ytdcfojohgcmpcaa
open Go.RowKit Go.Sl Go.Sort
set_option maxHeartbeats 4000000
set_option maxRecDepth 100000
/-- What Add returns. -/
def CrAns (b : Nat) (l : List SPair) (s bb : ByteArray) (n : Int) (h : Hp) (w : World) (e : Ending) (w' : World) : Prop :=
  ∃ h', e = .returned (.int .i64 (addE l s bb n)) ∧ Pt (kOne kPair) 122 h' b (addW l s bb n) ∧ Upd h h' w w'
theorem CrAns.no {b : Nat} {l : List SPair} {s bb : ByteArray} {n : Int} {h : Hp} {w w' : World} {E : Int} (hE : addE l s bb n = E) (h0 : E ≠ 0) (hp : Pt (kOne kPair) 122 h b l) (hs : h.sub w) (hb : Below w.heap.size w w') :
    CrAns b l s bb n h w (.returned (.int .i64 E)) w' := ⟨h, by rw [hE], by unfold addW; rw [hE, if_neg h0]; exact hp, Upd.stay hs hb⟩
theorem crossAdd_calls (b : Nat) (l : List SPair) (s bb : ByteArray) (n : Int) (h : Hp) (w : World) (hs : h.sub w) (hp : Pt (kOne kPair) 122 h b l) (g : GoodP l) :
    Calls Try.prog 27 #[.pointer (some ⟨b, 0, none⟩), .string s, .string bb, .int .i64 n] w (CrAns b l s bb n h w) := by
  obtain ⟨A, ca, hb, hc, ow, hfz⟩ := hp.one hs
  have hlt : b < w.heap.size := World.block_lt_of_cell? _ _ hc
  have MC := fun W => money_calls n W
  have EW := ((Env.start w).alloc (.cells #[.string s] 9)).alloc (.cells #[.string bb] 9)
  simp at EW
  have HE : Hid (addE l s bb n = if (noS s || (noS bb || (decide (s = bb) || !money n))) = true then 1 else if (decide (hasP l s bb + n < 0) || !money (hasP l s bb + n)) = true then 6 else if 8 < (nextP l s bb (hasP l s bb + n)).length then 5 else 0) := rfl
  cases e0 : s.toList.isEmpty with
  | true =>
    have HE1 : Hid (addE l s bb n = 1) := by unfold Hid; rw [HE.out, if_pos (by simp [noS, e0])]
    have e0' : s.toList = [] := by simpa using e0
    clear MC
    go_enter Try.func27, Try.ntmps27
    go_wp2
    go_ret
    exact .no HE1.out (by decide) hp hs EW.low
  | false =>
  cases e1 : bb.toList.isEmpty with
  | true =>
    have HE1 : Hid (addE l s bb n = 1) := by unfold Hid; rw [HE.out, if_pos (by simp [noS, e1])]
    have e1' : bb.toList = [] := by simpa using e1
    clear MC
    go_enter Try.func27, Try.ntmps27
    go_wp2
    go_ret
    exact .no HE1.out (by decide) hp hs EW.low
  | false =>
  by_cases e2 : s = bb
  · have HE1 : Hid (addE l s bb n = 1) := by unfold Hid; rw [HE.out, if_pos (by simp [e2])]
    have t2 : (s.toList == bb.toList) = true := by rw [e2]; simp
    clear MC e2
    go_enter Try.func27, Try.ntmps27
    go_wp2
    go_ret
    exact .no HE1.out (by decide) hp hs EW.low
  have t2 : (s.toList == bb.toList) = false := beq_eq_false_iff_ne.2 fun e => e2 (tl_inj e)
  cases e3 : money n with
  | false =>
    have HE1 : Hid (addE l s bb n = 1) := by unfold Hid; rw [HE.out, if_pos (by simp [e3])]
    rw [e3] at MC
    clear e2 e3
    go_enter Try.func27, Try.ntmps27
    go_wp2_with (go_at_call 65; refine (MC _).mono ?_; rintro e w' ⟨rfl, rfl⟩)
    go_ret
    exact .no HE1.out (by decide) hp hs EW.low
  | true =>
  have HE2 : Hid (addE l s bb n = if (decide (hasP l s bb + n < 0) || !money (hasP l s bb + n)) = true then 6 else if 8 < (nextP l s bb (hasP l s bb + n)).length then 5 else 0) := by
    unfold Hid; rw [HE.out, if_neg (by simp [noS, e0, e1, e2, e3])]
  obtain ⟨n1, n2⟩ : -100000000000 ≤ n ∧ n ≤ 100000000000 := by simpa [money] using e3
  obtain ⟨g1, g2⟩ := hasP_bd g s bb
  rw [e3] at MC
  clear HE e2 e3
  have eg : ∀ args w, (callFunc 76 args).run Try.prog w = .ok (.enter 76 args) w := enters_of Try.func76 (by kernel_rfl) rfl
  have eg2 : ∀ args w, (callFunc 80 args).run Try.prog w = .ok (.enter 80 args) w := enters_of Try.func80 (by kernel_rfl) rfl
  have KC : ∀ (W : World) (k : List Hp), Env w W (Hp.box w.heap.size [.string s] 9 :: Hp.box (w.heap.size + 1) [.string bb] 9 :: k) → W.cell? ⟨w.heap.size, 0, none⟩ = some (.string s) ∧ W.cell? ⟨w.heap.size + 1, 0, none⟩ = some (.string bb) := fun W k E => ⟨E.cell 0 rfl 0 rfl, E.cell 1 rfl 0 rfl⟩
  have IC := fun (W : World) (k : List Hp) (E : Env w W (Hp.box w.heap.size [.string s] 9 :: Hp.box (w.heap.size + 1) [.string bb] 9 :: k)) =>
    indexFunc_crow 76 #[.pointer (some ⟨w.heap.size, 0, none⟩), .pointer (some ⟨w.heap.size + 1, 0, none⟩)] eg (isP s bb) A ca l (h.del b) W ((hs.del b).of_below E.low) ow.sl
      (fun x W' hW => crossSame_calls x w.heap.size (w.heap.size + 1) s bb W' (KC W' k (E.below hW)).1 (KC W' k (E.below hW)).2)
  have DC := fun (W : World) (E : Env w W [Hp.box w.heap.size [.string s] 9, Hp.box (w.heap.size + 1) [.string bb] 9]) (C : Option Addr) (cc : Nat) (w1 : World) (hr : Hp) (E1 : Env w w1 [Hp.box w.heap.size [.string s] 9, Hp.box (w.heap.size + 1) [.string bb] 9, hr]) (o : Ow kPair hr C cc l) =>
    deleteFunc_crow 76 #[.pointer (some ⟨w.heap.size, 0, none⟩), .pointer (some ⟨w.heap.size + 1, 0, none⟩)] eg (isP s bb) C cc l hr w1 (E1.sub 2 rfl) o (by have := g.len; omega)
      (fun x W' k u => crossSame_calls x w.heap.size (w.heap.size + 1) s bb W' (KC W' [k] (E1.upd 2 rfl u)).1 (KC W' [k] (E1.upd 2 rfl u)).2)
  have hl8 := g.len
  have lm := ow.small
  rcases hasP_idx l s bb with ⟨hi, hv⟩ | ⟨i, x, hx, hi, hv⟩
  · rw [hi] at IC
    have hV : hasP l s bb + n = n := by rw [hv]; omega
    rw [hV] at HE2
    have HRR : Hid (addE l s bb n = 0 → addW l s bb n = isort ordStr2 pkey (nextP l s bb (n))) := fun h => by unfold addW; rw [if_pos h, hV]
    have hd := nextP_dist g.rise s bb (n)
    have MV := fun W => money_calls (n) W
    clear hV hi hv
    go_enter Try.func27, Try.ntmps27
    go_wp2_with (go_at_call 65; refine (MC _).mono ?_; rintro e w' ⟨rfl, rfl⟩)
    refine (IC _ [] EW).mono ?_
    rintro e w1 ⟨rfl, b1⟩
    have E1 := EW.below b1
    clear IC
    have hc1 := (E1.low.cell (p := ⟨b, 0, none⟩) hlt).trans hc
    skip
    by_cases h0 : n < 0
    · have HE6 : Hid (addE l s bb n = 6) := by unfold Hid; rw [HE2.out, if_pos (by simp [h0])]
      have t3 : decide (n < 0) = true := decide_eq_true h0
      clear MV DC
      go_wp2
      go_ret
      exact .no HE6.out (by decide) hp hs E1.low
    have t3 : decide (n < 0) = false := decide_eq_false h0
    cases e4 : money (n) with
    | false =>
      have HE6 : Hid (addE l s bb n = 6) := by unfold Hid; rw [HE2.out, if_pos (by simp [e4])]
      rw [e4] at MV
      clear e4 DC
      go_wp2_with (go_at_call 65; refine (MV _).mono ?_; rintro e w' ⟨rfl, rfl⟩)
      go_ret
      exact .no HE6.out (by decide) hp hs E1.low
    | true =>
    have HE3 : Hid (addE l s bb n = if 8 < (nextP l s bb (n)).length then 5 else 0) := by
      unfold Hid; rw [HE2.out, if_neg (by simp [e4]; omega)]
    rw [e4] at MV
    clear e4 HE2
    go_wp2_with (go_at_call 65; refine (MV _).mono ?_; rintro e w' ⟨rfl, rfl⟩)
    refine (crossRows_calls b l h _ (hs.of_below E1.low) hp (by omega)).mono ?_
    rintro e w2 ⟨C, cc, hr, rfl, or, ur⟩
    have E2 := E1.new ur
    simp at E2
    clear hc1
    go_wp2_with fail
    refine (DC _ EW C cc w2 hr E2 or).mono ?_
    rintro e w3 ⟨h3, rfl, o3, u3⟩
    have E3 := E2.upd 2 rfl u3
    simp at E3
    have HN : Hid (nextP l s bb (n) = (l.filter fun x => !isP s bb x) ++ (if n = 0 then [] else [⟨s, bb, n⟩])) := rfl
    have hfl := List.length_filter_le (fun x => !isP s bb x) l
    generalize (l.filter fun x => !isP s bb x) = fl at *
    generalize nextP l s bb (n) = NX at *
    obtain ⟨k0, k1⟩ := KC _ _ E3
    have lfl := o3.small
    clear DC ur u3 MV or
    by_cases v0 : n = 0
    · have t4 : (n != 0) = false := by simp [v0]
      rw [if_pos v0, List.append_nil] at HN
      clear v0
      rw [HN.out] at HE3 HRR hd
      clear HN
      have t5 : decide (8 < (fl.length : Int)) = false := by simp; omega
      have HE0 : Hid (addE l s bb n = 0) := by unfold Hid; rw [HE3.out, if_neg (by omega)]
      have HRe := Lib.hid (HRR.out HE0.out)
      have hil2 := isort_length hd
      have SC := sortFunc_crow ordStr2 pkey cfPair lt_pair 80 eg2 crossCmp_calls C cc fl h3 w3 (E3.sub 2 rfl) o3 hd (by omega)
      generalize isort ordStr2 pkey fl = so at *
      have hil2 := Lib.hid hil2
      clear HE3 HRR
      go_wp2_with fail
      refine SC.mono ?_
      rintro e w5 ⟨h5, rfl, o5, u5⟩
      have E5 := E3.upd 2 rfl u5
      simp at E5
      have hc5 := (E5.low.cell (p := ⟨b, 0, none⟩) hlt).trans hc
      have hf5 := fun n => (E5.low.frozen (p := ⟨b, n, none⟩) hlt).trans (hfz n)
      go_wp2
      obtain ⟨UF, hn3⟩ := Upd.field (v := .slice C fl.length cc) 0 hb hs (Hp.none_le _) (E5.made (h := h5) (by simp))
      go_ret
      exact ⟨_, by rw [HE0.out]; rfl, ⟨_, Hp.put_self, C, cc, by rw [HRe.out, hil2.out]; rfl, by rw [Hp.put_del hn3, HRe.out]; exact o5⟩, UF⟩
    have t4 : (n != 0) = true := by simpa using v0
    rw [if_neg v0] at HN
    clear v0
    have HNl : Hid (NX.length = fl.length + 1) := by unfold Hid; rw [HN.out, List.length_append]; rfl
    rw [HNl.out] at HE3
    by_cases h8 : 8 < fl.length + 1
    · have t5 : decide (8 < (fl.length : Int) + 1) = true := by simp; omega
      have HE5 : Hid (addE l s bb n = 5) := by unfold Hid; rw [HE3.out, if_pos h8]
      clear HE3 HRR
      go_wp2_with (at_builtin; refine wpList_eapp 2 ⟨s, bb, n⟩ Try.underlying24 info_crow (by repeat (first | (with_reducible exact E3) | (with_reducible apply Env.drew) | (with_reducible apply Env.drewN) | (with_reducible apply Env.alloc'))) (by rfl) o3 fl.length rfl (by rfl) (by rfl) rfl 1 (by rfl) (by rfl) (heap_new_at (by simp)) (by rfl) (by omega) (by omega) ?_; intro C4 cc4 w4 h4 o4 E4)
      go_ret
      exact .no HE5.out (by decide) hp hs E4.low
    · have t5 : decide (8 < (fl.length : Int) + 1) = false := by simp; omega
      have HE0 : Hid (addE l s bb n = 0) := by unfold Hid; rw [HE3.out, if_neg h8]
      have HRe := Lib.hid (HRR.out HE0.out)
      have hil2 := isort_length hd
      clear HE3 HRR
      go_wp2_with (at_builtin; refine wpList_eapp 2 ⟨s, bb, n⟩ Try.underlying24 info_crow (by repeat (first | (with_reducible exact E3) | (with_reducible apply Env.drew) | (with_reducible apply Env.drewN) | (with_reducible apply Env.alloc'))) (by rfl) o3 fl.length rfl (by rfl) (by rfl) rfl 1 (by rfl) (by rfl) (heap_new_at (by simp)) (by rfl) (by omega) (by omega) ?_; intro C4 cc4 w4 h4 o4 E4)
      simp at E4
      rw [← HN.out] at o4
      have SC := sortFunc_crow ordStr2 pkey cfPair lt_pair 80 eg2 crossCmp_calls C4 cc4 NX h4 w4 (E4.sub 2 rfl) o4 hd (by rw [HNl.out]; omega)
      rw [HNl.out] at SC hil2
      generalize isort ordStr2 pkey NX = so at *
      have hil2 := Lib.hid hil2
      refine SC.mono ?_
      rintro e w5 ⟨h5, rfl, o5, u5⟩
      have E5 := E4.upd 2 rfl u5
      simp at E5
      have hc5 := (E5.low.cell (p := ⟨b, 0, none⟩) hlt).trans hc
      have hf5 := fun n => (E5.low.frozen (p := ⟨b, n, none⟩) hlt).trans (hfz n)
      go_wp2
      obtain ⟨UF, hn3⟩ := Upd.field (v := .slice C4 (fl.length + 1) cc4) 0 hb hs (Hp.none_le _) (E5.made (h := h5) (by simp))
      go_ret
      exact ⟨_, by rw [HE0.out]; rfl, ⟨_, Hp.put_self, C4, cc4, by rw [HRe.out, hil2.out]; rfl, by rw [Hp.put_del hn3, HRe.out]; exact o5⟩, UF⟩
  · rw [hi] at IC
    have hV : hasP l s bb + n = x.amt + n := by rw [hv]
    rw [hv] at g1 g2
    have hil : i < l.length := (List.getElem?_eq_some_iff.1 hx).1
    have i1 : (0 : Int) ≤ (i : Int) := by omega
    have i2 : (i : Int) < (l.length : Int) := by omega
    have hxx := Lib.hid hx
    clear hx
    rw [hV] at HE2
    have HRR : Hid (addE l s bb n = 0 → addW l s bb n = isort ordStr2 pkey (nextP l s bb (x.amt + n))) := fun h => by unfold addW; rw [if_pos h, hV]
    have hd := nextP_dist g.rise s bb (x.amt + n)
    have MV := fun W => money_calls (x.amt + n) W
    clear hV hi hv
    go_enter Try.func27, Try.ntmps27
    go_wp2_with (go_at_call 65; refine (MC _).mono ?_; rintro e w' ⟨rfl, rfl⟩)
    refine (IC _ [] EW).mono ?_
    rintro e w1 ⟨rfl, b1⟩
    have E1 := EW.below b1
    clear IC
    have hc1 := (E1.low.cell (p := ⟨b, 0, none⟩) hlt).trans hc
    obtain ⟨bx, ox, rfl, c1, c2, c3⟩ := ow.sl.pair ((hs.del b).of_below E1.low) hxx
    by_cases h0 : x.amt + n < 0
    · have HE6 : Hid (addE l s bb n = 6) := by unfold Hid; rw [HE2.out, if_pos (by simp [h0])]
      have t3 : decide (x.amt + n < 0) = true := decide_eq_true h0
      clear MV DC
      go_wp2
      go_ret
      exact .no HE6.out (by decide) hp hs E1.low
    have t3 : decide (x.amt + n < 0) = false := decide_eq_false h0
    cases e4 : money (x.amt + n) with
    | false =>
      have HE6 : Hid (addE l s bb n = 6) := by unfold Hid; rw [HE2.out, if_pos (by simp [e4])]
      rw [e4] at MV
      clear e4 DC
      go_wp2_with (go_at_call 65; refine (MV _).mono ?_; rintro e w' ⟨rfl, rfl⟩)
      go_ret
      exact .no HE6.out (by decide) hp hs E1.low
    | true =>
    have HE3 : Hid (addE l s bb n = if 8 < (nextP l s bb (x.amt + n)).length then 5 else 0) := by
      unfold Hid; rw [HE2.out, if_neg (by simp [e4]; omega)]
    rw [e4] at MV
    clear e4 HE2
    go_wp2_with (go_at_call 65; refine (MV _).mono ?_; rintro e w' ⟨rfl, rfl⟩)
    refine (crossRows_calls b l h _ (hs.of_below E1.low) hp (by omega)).mono ?_
    rintro e w2 ⟨C, cc, hr, rfl, or, ur⟩
    have E2 := E1.new ur
    simp at E2
    clear hc1
    go_wp2_with fail
    refine (DC _ EW C cc w2 hr E2 or).mono ?_
    rintro e w3 ⟨h3, rfl, o3, u3⟩
    have E3 := E2.upd 2 rfl u3
    simp at E3
    have HN : Hid (nextP l s bb (x.amt + n) = (l.filter fun x => !isP s bb x) ++ (if x.amt + n = 0 then [] else [⟨s, bb, x.amt + n⟩])) := rfl
    have hfl := List.length_filter_le (fun x => !isP s bb x) l
    generalize (l.filter fun x => !isP s bb x) = fl at *
    generalize nextP l s bb (x.amt + n) = NX at *
    obtain ⟨k0, k1⟩ := KC _ _ E3
    have lfl := o3.small
    clear DC ur u3 MV or
    by_cases v0 : x.amt + n = 0
    · have t4 : (x.amt + n != 0) = false := by simp [v0]
      rw [if_pos v0, List.append_nil] at HN
      clear v0
      rw [HN.out] at HE3 HRR hd
      clear HN
      have t5 : decide (8 < (fl.length : Int)) = false := by simp; omega
      have HE0 : Hid (addE l s bb n = 0) := by unfold Hid; rw [HE3.out, if_neg (by omega)]
      have HRe := Lib.hid (HRR.out HE0.out)
      have hil2 := isort_length hd
      have SC := sortFunc_crow ordStr2 pkey cfPair lt_pair 80 eg2 crossCmp_calls C cc fl h3 w3 (E3.sub 2 rfl) o3 hd (by omega)
      generalize isort ordStr2 pkey fl = so at *
      have hil2 := Lib.hid hil2
      clear HE3 HRR
      go_wp2_with fail
      refine SC.mono ?_
      rintro e w5 ⟨h5, rfl, o5, u5⟩
      have E5 := E3.upd 2 rfl u5
      simp at E5
      have hc5 := (E5.low.cell (p := ⟨b, 0, none⟩) hlt).trans hc
      have hf5 := fun n => (E5.low.frozen (p := ⟨b, n, none⟩) hlt).trans (hfz n)
      go_wp2
      obtain ⟨UF, hn3⟩ := Upd.field (v := .slice C fl.length cc) 0 hb hs (Hp.none_le _) (E5.made (h := h5) (by simp))
      go_ret
      exact ⟨_, by rw [HE0.out]; rfl, ⟨_, Hp.put_self, C, cc, by rw [HRe.out, hil2.out]; rfl, by rw [Hp.put_del hn3, HRe.out]; exact o5⟩, UF⟩
    have t4 : (x.amt + n != 0) = true := by simpa using v0
    rw [if_neg v0] at HN
    clear v0
    have HNl : Hid (NX.length = fl.length + 1) := by unfold Hid; rw [HN.out, List.length_append]; rfl
    rw [HNl.out] at HE3
    by_cases h8 : 8 < fl.length + 1
    · have t5 : decide (8 < (fl.length : Int) + 1) = true := by simp; omega
      have HE5 : Hid (addE l s bb n = 5) := by unfold Hid; rw [HE3.out, if_pos h8]
      clear HE3 HRR
      go_wp2_with (at_builtin; refine wpList_eapp 2 ⟨s, bb, x.amt + n⟩ Try.underlying24 info_crow (by repeat (first | (with_reducible exact E3) | (with_reducible apply Env.drew) | (with_reducible apply Env.drewN) | (with_reducible apply Env.alloc'))) (by rfl) o3 fl.length rfl (by rfl) (by rfl) rfl 1 (by rfl) (by rfl) (heap_new_at (by simp)) (by rfl) (by omega) (by omega) ?_; intro C4 cc4 w4 h4 o4 E4)
      go_ret
      exact .no HE5.out (by decide) hp hs E4.low
    · have t5 : decide (8 < (fl.length : Int) + 1) = false := by simp; omega
      have HE0 : Hid (addE l s bb n = 0) := by unfold Hid; rw [HE3.out, if_neg h8]
      have HRe := Lib.hid (HRR.out HE0.out)
      have hil2 := isort_length hd
      clear HE3 HRR
      go_wp2_with (at_builtin; refine wpList_eapp 2 ⟨s, bb, x.amt + n⟩ Try.underlying24 info_crow (by repeat (first | (with_reducible exact E3) | (with_reducible apply Env.drew) | (with_reducible apply Env.drewN) | (with_reducible apply Env.alloc'))) (by rfl) o3 fl.length rfl (by rfl) (by rfl) rfl 1 (by rfl) (by rfl) (heap_new_at (by simp)) (by rfl) (by omega) (by omega) ?_; intro C4 cc4 w4 h4 o4 E4)
      simp at E4
      rw [← HN.out] at o4
      have SC := sortFunc_crow ordStr2 pkey cfPair lt_pair 80 eg2 crossCmp_calls C4 cc4 NX h4 w4 (E4.sub 2 rfl) o4 hd (by rw [HNl.out]; omega)
      rw [HNl.out] at SC hil2
      generalize isort ordStr2 pkey NX = so at *
      have hil2 := Lib.hid hil2
      refine SC.mono ?_
      rintro e w5 ⟨h5, rfl, o5, u5⟩
      have E5 := E4.upd 2 rfl u5
      simp at E5
      have hc5 := (E5.low.cell (p := ⟨b, 0, none⟩) hlt).trans hc
      have hf5 := fun n => (E5.low.frozen (p := ⟨b, n, none⟩) hlt).trans (hfz n)
      go_wp2
      obtain ⟨UF, hn3⟩ := Upd.field (v := .slice C4 (fl.length + 1) cc4) 0 hb hs (Hp.none_le _) (E5.made (h := h5) (by simp))
      go_ret
      exact ⟨_, by rw [HE0.out]; rfl, ⟨_, Hp.put_self, C4, cc4, by rw [HRe.out, hil2.out]; rfl, by rw [Hp.put_del hn3, HRe.out]; exact o5⟩, UF⟩
end Go.Proofs.Ytdcfojohgcmpcaa
end
