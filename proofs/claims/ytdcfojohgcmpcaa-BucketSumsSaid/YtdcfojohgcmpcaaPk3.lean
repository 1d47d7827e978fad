/- Walks and plain facts that the laws of this seat share, part 3: contracts of functions, each said at its theorem. -/
import Derived.Test.YtdcfojohgcmpcaaPk2
import Derived.Shelf.Abstract
import Derived.Laws.CopyRow
import Derived.Lib.BufferMore
import Derived.Deep.QuietTactic
import Derived.Deep.RegionHeld3
set_option linter.all false
section
/- slices.SortFunc over api.Bucket, whatever the order. -/
namespace Go.Sl
instance : Inhabited STri := ⟨⟨0, 0, 0⟩⟩
end Go.Sl
namespace Go.Proofs.Ytdcfojohgcmpcaa
open Go.RowKit Go.Sl Go.Sort
set_option maxHeartbeats 1000000
set_option maxRecDepth 100000
theorem ins0_bucket (p : Option Addr) (cap : Nat) (fv : Value) (w : World) : Calls Try.prog 150 #[.slice p 0 cap, .int .i64 0, .int .i64 0, fv] w fun e w' => e = .returned (.tuple #[]) ∧ w = w' := by
  go_enter Try.func150, Try.ntmps150
  go_wp2
  go_loop [8] (fun i => i = .int .i64 1) (fun _ => 0)
  case atStart => exact rfl
  case round =>
    obtain rfl := hrel
    go_wp2
    go_end0
    exact ⟨rfl, rfl⟩
theorem pdq0_bucket (p : Option Addr) (cap : Nat) (lim : Int) (fv : Value) (w : World) : Calls Try.prog 117 #[.slice p 0 cap, .int .i64 0, .int .i64 0, .int .i64 lim, fv] w fun e w' => e = .returned (.tuple #[]) ∧ w = w' := by
  go_enter Try.func117, Try.ntmps117
  go_wp2
  go_loop [10, 1, 2] (fun b x y => b = .bool true ∧ x = .int .i64 0 ∧ y = .int .i64 0) (fun _ _ _ => 0)
  case atStart => exact ⟨rfl, rfl, rfl⟩
  case round =>
    obtain ⟨rfl, rfl, rfl⟩ := hrel
    go_wp2_with fail
    refine (ins0_bucket p cap fv w).mono ?_
    rintro e w' ⟨rfl, rfl⟩
    go_wp2
    exact bodyPost_ret (v := .tuple #[]) (by simp [results, Try.results117, go_sem]) rfl ⟨rfl, rfl⟩
theorem sortNone_bucket (p : Option Addr) (cap : Nat) (fv : Value) (w : World) : Calls Try.prog 90 #[.slice p 0 cap, fv] w fun e w' => e = .returned (.tuple #[]) ∧ w = w' := by
  have hl : ∀ W, Calls Try.prog 109 #[.int .u64 0] W fun e w' => e = .returned (.int .i64 (Go.Lib.bitLen 0 : Nat)) ∧ w' = W := fun W =>
    Go.Proofs.Any.bits_Len (Go.Proofs.SlLaysF0.n15.bits (P := Try.prog) (ρ := Try.sortBucket_ren) { Try.sortBucket with }) 0 W (by omega) (by omega)
  go_enter Try.func90, Try.ntmps90
  go_wp2_with fail
  refine (hl _).mono ?_
  rintro e w' ⟨rfl, rfl⟩
  go_wp2_with fail
  refine (pdq0_bucket p cap _ fv _).mono ?_
  rintro e w' ⟨rfl, rfl⟩
  go_wp2
  go_end0
  exact ⟨rfl, rfl⟩
theorem sortFunc_bucket {κ : Type} [DecidableEq κ] (od : Go.Sl.Ord κ) (key : STri → κ) (cf : STri → STri → Int) (hlt : ∀ x y, Go.Proofs.ltOf cf x y = od.lt (key x) (key y)) (g : FuncId) (eg : Enters Try.prog g)
    (hc : ∀ (x y : STri) (W : World), Calls Try.prog g #[.agg #[.int .i64 x.a, .int .i64 x.b, .int .i64 x.c], .agg #[.int .i64 y.a, .int .i64 y.b, .int .i64 y.c]] W fun e W' => e = .returned (.int .i64 (cf x y)) ∧ ∃ q os', W' = grow (W.drewN q) os')
    (A : Option Addr) (ca : Nat) (rows : List STri) (h : Hp) (w : World) (hs : h.sub w) (o : Ow kTri h A ca rows) (hn : rows.Pairwise fun x y => key x ≠ key y) (hl : rows.length ≤ 1000000) :
    Calls Try.prog 90 #[.slice A rows.length ca, .func (.func g) #[] #[]] w fun e w' => ∃ h', e = .returned (.tuple #[]) ∧ Ow kTri h' A ca (isort od key rows) ∧ Upd h h' w w' := by
  by_cases h0 : 0 < rows.length
  · obtain ⟨ad, hA⟩ := o.some_of_lt h0
    obtain ⟨b, off, cur, T, e, hbk, _, _⟩ := o.row ad hA (by have := o.le; omega)
    subst e
    subst hA
    have hH := o.holds hs h0
    have hblk : b < w.heap.size := hs.lt (by simp [hbk])
    have hcmp : Go.Proofs.CmpLays Try.prog g #[] STri.cells 3 cf b off rows.toArray.size w := fun _ _ _ _ x y => hc x y _
    have key' := Go.Proofs.AnyQ.slices_SortFunc Try.sortBucket 3 (fun w => by kernel_rfl) (fun w => by kernel_rfl) STri.cells (fun _ => rfl) (fun x v hv => by simp [STri.cells] at hv; rcases hv with rfl | rfl | rfl <;> rfl) cf (swo_ord od key _ hlt) g #[] b off ca rows.toArray w eg hcmp hH hblk (by simp; omega)
    refine key'.mono ?_
    rintro e w' ⟨he, d, n, os, hp, hso, hw⟩
    have hd : d.size = rows.length := by simpa using hp.1
    obtain ⟨h', o', u'⟩ := o.sorted hs h0 hd hw
    rw [isort_of hn hlt (by simpa using hp) (by simpa using hso)] at o'
    exact ⟨h', he, o', u'⟩
  · have hz0 : rows = [] := List.eq_nil_of_length_eq_zero (by omega)
    subst hz0
    exact (sortNone_bucket A ca _ w).mono fun _ _ ⟨he, hw⟩ => ⟨h, he, o, by subst hw; exact Upd.stay hs (Below.refl _ _)⟩
end Go.Proofs.Ytdcfojohgcmpcaa
end
section
/- slices.IndexFunc over api.Bucket, whatever the predicate. -/
namespace Go.Proofs.Ytdcfojohgcmpcaa
open Go.RowKit Go.Sl
set_option maxHeartbeats 1000000
set_option maxRecDepth 100000
theorem indexFunc_bucket (g : FuncId) (lb : Array Value) (eg : Enters Try.prog g) (p : STri → Bool) (A : Option Addr) (ca : Nat) (xs : List STri) (h : Hp) (w : World) (hs : h.sub w) (sx : Sl kTri h A ca xs)
    (hp : ∀ (x : STri) (W : World), Below w.heap.size w W → Calls Try.prog g (#[.agg #[.int .i64 x.a, .int .i64 x.b, .int .i64 x.c]] ++ lb) W fun e W' => e = .returned (.bool (p x)) ∧ Below W.heap.size W W') :
    Calls Try.prog 118 #[.slice A xs.length ca, .func (.func g) #[] lb] w fun e w' => e = .returned (.int .i64 (idx p xs)) ∧ Below w.heap.size w w' := by
  have m1 := sx.small
  have eg' := fun (args : Array Value) (w : World) => eg args w
  go_enter Try.func118, Try.ntmps118
  go_wp2
  go_loopw [8] (fun i wr => ∃ (j : Nat), j ≤ xs.length ∧ i = .int .i64 j ∧ Hid (∀ y ∈ xs.take j, p y = false) ∧ Below w.heap.size w wr) (fun i _ => xs.length - (intOf i).toNat)
  case atStart => exact ⟨0, by omega, rfl, by unfold Hid; simp, Below.refl _ _⟩
  case round =>
    obtain ⟨j, hj, rfl, hn, hb⟩ := hrel
    by_cases hlt : j < xs.length
    · obtain ⟨x, hx⟩ := some_of_lt hlt
      obtain ⟨b1, o1, rfl, c1, c2, c3⟩ := sx.tri (hs.of_below hb) hx
      have i1 : (0 : Int) ≤ (j : Int) := by omega
      have i2 : (j : Int) < (xs.length : Int) := by omega
      have hpx := Lib.hid (hp x wr hb)
      by_cases hpp : p x = true
      · have HF : Hid (idx p xs = j) := idx_hit hn.out hx.out hpp
        go_wp2_with fail
        refine hpx.out.mono ?_
        rintro e w1 ⟨rfl, b1⟩
        go_wp2
        go_ret
        exact ⟨by rw [HF.out]; rfl, hb.trans (b1.mono hb.size)⟩
      · have hpf : p x = false := by simpa using hpp
        have HN : Hid (∀ y ∈ xs.take (j + 1), p y = false) := by
          intro y hy
          rw [take_next hx] at hy
          rcases List.mem_append.1 hy with hy | hy
          · exact hn.out y hy
          · simp at hy; subst hy; exact hpf
        clear hpp
        go_wp2_with fail
        refine hpx.out.mono ?_
        rintro e w1 ⟨rfl, b1⟩
        go_wp2
        go_roundw
        case rel => exact ⟨j + 1, by omega, by go_num, HN, hb.trans (b1.mono hb.size)⟩
        case measure => simp [intOf]; omega
    · have HF : Hid (idx p xs = -1) := idx_miss (fun y hy => hn.out y (by rw [List.take_of_length_le (by omega)]; exact hy))
      go_wp2
      go_ret
      exact ⟨by rw [HF.out]; rfl, hb⟩
end Go.Proofs.Ytdcfojohgcmpcaa
end
section
/- clear of the rest of an owned slice; elements moved to the front. No program is named here. -/
namespace Go.Sl
open Go Go.RowKit
section
variable {P : Program} {α : Type} {k : Kd α} {h : Hp} {b off cap : Nat} {xs : List α} {w : World}
/-- A row that stands in its first m elements. -/
theorem Ow.rowTake {E : TypeId} {cur cur' : Array Value} (o : Ow k h (some ⟨b, off, .none⟩) cap xs) (s : h.sub w) (h0 : 0 < cap) (hb : h b = some (.cells cur E (0, 0))) (hsz : cur'.size = cur.size) {m : Nat} (hm : m ≤ xs.length)
    (hc : ∀ q, q < off + m * k.size → cur'[q]? = cur[q]?) : ∃ h', Ow k h' (some ⟨b, off, .none⟩) cap (xs.take m) ∧ Upd h h' w (w.setRow b cur') := by
  obtain ⟨b', off', cur0, E0, e, hb0, hsz0, hrow⟩ := o.row _ rfl h0
  cases e
  rw [hb] at hb0
  cases hb0
  have hbw := s b _ hb
  have hdel : (h.put b (.cells cur' E (0, 0))).del b = h.del b := by
    funext q; simp only [Hp.del, Hp.put]; split <;> simp_all
  refine ⟨h.put b (.cells cur' E (0, 0)), ⟨by have := o.le; rw [List.length_take]; omega, o.max, o.nil, ?_⟩, rfl, rfl, rfl, by simp, fun q hq hn => setRow_other w b q _ (fun e => by rw [e, hb] at hn; cases hn), ?_, ?_⟩
  · rintro ad ⟨⟩ _
    refine ⟨b, off, _, E, rfl, if_pos rfl, by rw [hsz]; exact hsz0, fun i x hx => ?_⟩
    rw [hdel]
    rw [List.getElem?_take] at hx
    split at hx
    · rename_i hi
      obtain ⟨cs, hK, hcs⟩ := hrow i x hx
      refine ⟨cs, hK, fun j u hu => ?_⟩
      have hj : j < k.size := by rw [← k.len hK]; exact (List.getElem?_eq_some_iff.1 hu).1
      have h1 : (i + 1) * k.size ≤ m * k.size := Nat.mul_le_mul_right _ hi
      rw [Nat.add_mul] at h1
      rw [hc _ (by omega)]
      exact hcs j u hu
    · cases hx
  · intro q o' e'
    simp only [Hp.put] at e'
    split at e'
    · rename_i hq; cases e'; rw [hq]; exact setRow_heap w b cur _ E _ hbw
    · rename_i hq; rw [setRow_other w b q _ hq]; exact s q o' e'
  · intro q hq
    left
    simp only [Hp.put] at hq
    split at hq
    · rename_i h2; rw [h2, hb]; simp
    · exact hq
theorem run_clear_none {t e ty : TypeId} {A : Option Addr} {c : Nat} (ht : P.underlying t = some (.slice e)) (w : World) : (Builtin.clear_ #[t] ty #[.slice A 0 c]).run P w = .ok (.tuple #[]) w := by
  cases A <;> simp [Builtin.clear_, run_underlying ht]
theorem run_clear_rest {t e ty : TypeId} {z : Value} (ht : P.underlying t = some (.slice e)) (hv : ∀ w, (zeroValue e).run P w = .ok z w) (hz : z.cells.size = k.size) (hz1 : ∀ u ∈ z.cells.toList, u.oneCell' = true)
    (o : Ow k h (some ⟨b, off, .none⟩) cap xs) (s : h.sub w) {i : Nat} (hi : i < xs.length) (c : Nat) :
    ∃ w' h', (Builtin.clear_ #[t] ty #[.slice (some ⟨b, off + i * k.size, .none⟩) (xs.length - i) c]).run P w = .ok (.tuple #[]) w' ∧ Ow k h' (some ⟨b, off, .none⟩) cap (xs.take i) ∧ Upd h h' w w' := by
  have hcap := o.le
  obtain ⟨b', off', cur, E, e, hb, hsz, hrow⟩ := o.row _ rfl (by omega)
  cases e
  have hbw := s b _ hb
  generalize hzs : (Builtin.zeroCells z.cells (xs.length - i)).toList = zs
  have hlen : zs.length = (xs.length - i) * k.size := by rw [← hzs]; simp [Builtin.zeroCells, hz]
  have hz2 : ∀ u ∈ zs, u.oneCell' = true := by
    intro u hu
    rw [← hzs] at hu
    simp only [Builtin.zeroCells, Array.toList_map, List.mem_map] at hu
    obtain ⟨q, hq, rfl⟩ := hu
    have hp : 0 < z.cells.size := by rw [hz]; exact k.pos
    have hlt : q % z.cells.size < z.cells.size := Nat.mod_lt _ hp
    rw [getElem!_pos z.cells _ hlt]
    exact hz1 _ (by simp)
  have hmul : (xs.length - i) * k.size = xs.length * k.size - i * k.size := Nat.sub_mul _ _ _
  have hle1 : i * k.size ≤ xs.length * k.size := Nat.mul_le_mul_right _ (by omega)
  have hle2 : xs.length * k.size ≤ cap * k.size := Nat.mul_le_mul_right _ hcap
  have hst := run_storeCells_at P b (off + i * k.size) E zs 0 cur w hbw (by rw [hlen]; omega) hz2
  simp only [Nat.add_zero] at hst
  obtain ⟨h', o', u'⟩ := o.rowTake (cur' := (cur.toList.take (off + i * k.size) ++ zs ++ cur.toList.drop (off + i * k.size + zs.length)).toArray) s (by omega) hb (by simp; omega) (m := i) (by omega) (fun q hq => by
    rw [List.getElem?_toArray, List.append_assoc, List.getElem?_append_left (by rw [List.length_take, Array.length_toList]; omega), List.getElem?_take, if_pos hq]; simp)
  obtain ⟨m, hm⟩ : ∃ m, xs.length - i = m + 1 := ⟨xs.length - i - 1, by omega⟩
  rw [hm] at hzs ⊢
  exact ⟨_, h', by simp [Builtin.clear_, run_underlying ht, hv, hzs, hst], o', u'⟩
end
theorem filter_take_next {α : Type} {p : α → Bool} {xs : List α} {j : Nat} {x : α} (h : Hid (xs[j]? = some x)) : (xs.take (j + 1)).filter p = (xs.take j).filter p ++ (if p x then [x] else []) := by
  rw [take_next h, List.filter_append]
  congr 1
  cases hp : p x <;> simp [hp]
end Go.Sl
end
section
/- slices.DeleteFunc over api.Bucket, whatever the predicate. -/
namespace Go.Proofs.Ytdcfojohgcmpcaa
open Go.RowKit Go.Sl
set_option maxHeartbeats 1000000
set_option maxRecDepth 100000
theorem deleteFunc_bucket (g : FuncId) (lb : Array Value) (eg : Enters Try.prog g) (p : STri → Bool) (A : Option Addr) (ca : Nat) (xs : List STri) (h : Hp) (w : World) (hs : h.sub w) (o : Ow kTri h A ca xs) (hl : xs.length ≤ 1000000)
    (hp : ∀ (x : STri) (W : World) (k : Hp), Upd h k w W → Calls Try.prog g (#[.agg #[.int .i64 x.a, .int .i64 x.b, .int .i64 x.c]] ++ lb) W fun e W' => e = .returned (.bool (p x)) ∧ Below W.heap.size W W') :
    Calls Try.prog 115 #[.slice A xs.length ca, .func (.func g) #[] lb] w fun e w' => ∃ h', e = .returned (.slice A (xs.filter fun x => !p x).length ca) ∧ Ow kTri h' A ca (xs.filter fun x => !p x) ∧ Upd h h' w w' := by
  have m1 := o.small
  have eg' := fun (args : Array Value) (w : World) => eg args w
  have IC := indexFunc_bucket g lb eg p A ca xs h w hs o.sl (fun x W hW => hp x W h (Upd.stay hs hW))
  by_cases hany : xs.any p = true
  · have hlt : xs.findIdx p < xs.length := List.findIdx_lt_length.2 (List.any_eq_true.1 hany)
    obtain ⟨x0, hx0⟩ := some_of_lt hlt
    have hp0 : p x0 = true := by
      have := List.findIdx_getElem (w := hlt); rw [(List.getElem?_eq_some_iff.1 hx0.out).2] at this; exact this
    have hn0 : ∀ y ∈ xs.take (xs.findIdx p), p y = false := fun y hy => by
      obtain ⟨q, hq, rfl⟩ := List.mem_take_iff_getElem.1 hy
      have := List.not_of_lt_findIdx (show q < xs.findIdx p by omega)
      simpa using this
    have hF : idx p xs = (xs.findIdx p : Nat) := by unfold idx; rw [if_pos hany]
    rw [hF] at IC
    have hS : Hid ((xs.take (xs.findIdx p)) = (xs.take (xs.findIdx p + 1)).filter fun x => !p x) := by
      unfold Hid
      rw [filter_take_next hx0, hp0]
      simp only [Bool.not_true, Bool.false_eq_true, if_false, List.append_nil]
      exact (List.filter_eq_self.2 fun y hy => by simp [hn0 y hy]).symm
    generalize xs.findIdx p = i0 at *
    obtain ⟨ad, hA⟩ := o.some_of_lt hlt
    obtain ⟨b, off, cur, T, e, hbk, _, _⟩ := o.row ad hA (by have := o.le; omega)
    subst e
    subst hA
    have i1 : (0 : Int) ≤ (i0 : Int) := by omega
    have i2 : (i0 : Int) < (xs.length : Int) := by omega
    have hq0 : ((i0 : Int) == -1) = false := by simp
    clear hany hx0 hp0 hn0 hF hbk
    go_enter Try.func115, Try.ntmps115
    go_wp2_with fail
    refine IC.mono ?_
    rintro e w1 ⟨rfl, b1⟩
    have E1 := Upd.stay hs b1
    clear IC
    go_wp2
    go_loopw [5, 6] (fun iv jv wr => ∃ (i j : Nat) (zs : List STri) (h' : Hp), iv = .int .i64 i ∧ jv = .int .i64 j ∧ i < j ∧ j ≤ xs.length ∧ Hid (zs.length = xs.length) ∧ Hid (zs.take i = (xs.take j).filter fun x => !p x) ∧ Hid (∀ q, j ≤ q → zs[q]? = xs[q]?) ∧ Ow kTri h' (some ⟨b, off, none⟩) ca zs ∧ Upd h h' w wr) (fun _ jv _ => xs.length - (intOf jv).toNat)
    case atStart => exact ⟨i0, i0 + 1, xs, h, rfl, by go_num, by omega, by omega, rfl, hS, fun _ _ => rfl, o, E1⟩
    case round =>
      clear E1 hS i1 i2 hlt b1
      obtain ⟨i, j, zs, h', rfl, rfl, hij, hj, hzl, hzt, hzd, oz, uz⟩ := hrel
      by_cases hlt : j < xs.length
      · obtain ⟨x, hx⟩ := some_of_lt hlt
        have hzx : Hid (zs[j]? = some x) := by unfold Hid; rw [hzd.out j (Nat.le_refl _)]; exact hx.out
        obtain ⟨b1, o1, e1, c1, c2, c3⟩ := oz.sl.tri uz.sub hzx
        cases e1
        obtain ⟨y, hy⟩ := some_of_lt (show i < zs.length by rw [hzl.out]; omega)
        obtain ⟨_, _, e2, d1, d2, d3⟩ := oz.sl.tri uz.sub hy
        cases e2
        have hlz : i < zs.length := (List.getElem?_eq_some_iff.1 hy.out).1
        have hfr := oz.cell_free uz.sub (lt_of_some hy.out)
        have hb0 : b < wr.heap.size := World.block_lt_of_cell? _ _ c1
        have i1 : (0 : Int) ≤ (j : Int) := by omega
        have i2 : (j : Int) < (xs.length : Int) := by omega
        have i3 : (0 : Int) ≤ (i : Int) := by omega
        have i4 : (i : Int) < (xs.length : Int) := by omega
        have hpx := fun (W : World) (hW : Below wr.heap.size wr W) => hp x W h' (uz.after hW)
        have HT := Lib.hid (filter_take_next (p := fun x => !p x) hx)
        have ST : ∀ V : World, h'.sub V → ∃ k, Ow kTri k (some ⟨b, off, none⟩) ca (zs.set i x) ∧ Upd h' k V (((V.setCell ⟨b, off + i * 3, none⟩ (.int .i64 x.a)).setCell ⟨b, off + i * 3 + 1, none⟩ (.int .i64 x.b)).setCell ⟨b, off + i * 3 + 2, none⟩ (.int .i64 x.c)) := fun V S => by
          obtain ⟨k1, p1, u1⟩ := Ow.set (x' := ⟨x.a, y.b, y.c⟩) (v := .int .i64 x.a) (j := 0) oz S hy.out (by decide) rfl
          obtain ⟨k2, p2, u2⟩ := Ow.set (x' := ⟨x.a, x.b, y.c⟩) (v := .int .i64 x.b) (j := 1) p1 (u1.sub) (List.getElem?_set_self hlz) (by decide) rfl
          obtain ⟨k3, p3, u3⟩ := Ow.set (x' := ⟨x.a, x.b, x.c⟩) (v := .int .i64 x.c) (j := 2) p2 (u2.sub) (List.getElem?_set_self (by simpa using hlz)) (by decide) rfl
          rw [List.set_set, List.set_set] at p3
          exact ⟨k3, p3, ((u1.trans u2).trans u3)⟩
        cases hpp : p x with
        | true =>
          rw [hpp] at hpx HT
          have HT2 : Hid ((xs.take (j + 1)).filter (fun x => !p x) = (xs.take j).filter fun x => !p x) := by unfold Hid; rw [HT.out]; simp
          clear hpp HT ST hlz hy hfr
          go_wp2_with fail
          refine (hpx _ (by repeat (first | exact Below.refl _ _ | apply Below.drew | refine Below.alloc ?_ (by simp) _))).mono ?_
          rintro e w2 ⟨rfl, b2⟩
          go_wp2
          go_roundw
          case rel => exact ⟨i, j + 1, zs, h', rfl, by go_num, by omega, by omega, hzl, by unfold Hid; rw [HT2.out]; exact hzt.out, fun q hq => hzd.out q (by omega), oz, uz.after (((Below.refl _ _).alloc (Nat.le_refl _) _).trans (b2.mono (by simp)))⟩
          case measure => simp [intOf]; omega
        | false =>
          rw [hpp] at hpx HT
          have HT2 : Hid ((xs.take (j + 1)).filter (fun x => !p x) = (xs.take j).filter (fun x => !p x) ++ [x]) := by unfold Hid; rw [HT.out]; simp
          have HZ : Hid ((zs.set i x).take (i + 1) = zs.take i ++ [x]) := by
            unfold Hid
            rw [take_next (xs := zs.set i x) (x := x) (show Hid ((zs.set i x)[i]? = some x) from List.getElem?_set_self hlz), List.take_set_of_le (Nat.le_refl _)]
          clear hpp HT hlz hy
          go_wp2_with fail
          refine (hpx _ (by repeat (first | exact Below.refl _ _ | apply Below.drew | refine Below.alloc ?_ (by simp) _))).mono ?_
          rintro e w2 ⟨rfl, b2⟩
          have hz2 := b2.size
          simp at hz2
          have bb := ((Below.refl wr.heap.size wr).alloc (Nat.le_refl _) (.cells #[.int .i64 x.a, .int .i64 x.b, .int .i64 x.c] 81)).trans (b2.mono (by simp))
          have q1 : w2.cell? ⟨wr.heap.size, 0, none⟩ = some (.int .i64 x.a) := (b2.cell (by simp)).trans (by rw [cell_new rfl]; rfl)
          have q2 : w2.cell? ⟨wr.heap.size, 1, none⟩ = some (.int .i64 x.b) := (b2.cell (by simp)).trans (by rw [cell_new rfl]; rfl)
          have q3 : w2.cell? ⟨wr.heap.size, 2, none⟩ = some (.int .i64 x.c) := (b2.cell (by simp)).trans (by rw [cell_new rfl]; rfl)
          have fr2 : ∀ n, w2.frozen? ⟨b, n, none⟩ = false := fun n => (bb.frozen (p := ⟨b, n, none⟩) hb0).trans (hfr n)
          have e1 : w2.cell? ⟨b, off + i * 3, none⟩ = some (.int .i64 y.a) := (bb.cell (p := ⟨b, off + i * 3, none⟩) hb0).trans d1
          have e2 : w2.cell? ⟨b, off + i * 3 + 1, none⟩ = some (.int .i64 y.b) := (bb.cell (p := ⟨b, off + i * 3 + 1, none⟩) hb0).trans d2
          have e3 : w2.cell? ⟨b, off + i * 3 + 2, none⟩ = some (.int .i64 y.c) := (bb.cell (p := ⟨b, off + i * 3 + 2, none⟩) hb0).trans d3
          obtain ⟨k, ok, uk⟩ := ST w2 (uz.sub.of_below bb)
          go_wp2
          go_roundw
          case rel => exact ⟨i + 1, j + 1, _, k, by go_num, by go_num, by omega, by omega, by unfold Hid; rw [List.length_set]; exact hzl.out, by unfold Hid; rw [HZ.out, HT2.out, hzt.out], fun q hq => by rw [List.getElem?_set_ne (by omega)]; exact hzd.out q (by omega), ok, (uz.after bb).trans uk⟩
          case measure => simp [intOf]; omega
      · obtain rfl : j = xs.length := by omega
        rw [List.take_length] at hzt
        obtain ⟨w2, h2, hrun, o2, u2⟩ := run_clear_rest (P := Try.prog) (t := 77) (e := 81) (ty := 0) (z := .agg #[.int .i64 0, .int .i64 0, .int .i64 0]) Try.underlying77 (fun w => by kernel_rfl) (by rfl) (List.all_eq_true.1 (show ((.agg #[.int .i64 0, .int .i64 0, .int .i64 0] : Value).cells.toList.all fun u => u.oneCell') = true from rfl)) oz uz.sub (i := i) (by rw [hzl.out]; omega) (ca - i)
        rw [hzl.out, show kTri.size = 3 from rfl] at hrun
        rw [hzt.out] at o2
        have hcap := oz.le
        rw [hzl.out] at hcap
        have i1 : (0 : Int) ≤ (i : Int) := by omega
        have i2 : (i : Int) ≤ (xs.length : Int) := by omega
        have i3 : (i : Int) ≤ (ca : Int) := by omega
        have hne : ¬ ca = i := by omega
        have hL : Hid ((xs.filter fun x => !p x).length = i) := by
          unfold Hid; rw [← hzt.out, List.length_take, hzl.out]; omega
        clear hlt
        go_wp2
        go_ret
        exact ⟨h2, by rw [hL.out]; rfl, o2, uz.trans u2⟩
  · have hn : ∀ y ∈ xs, p y = false := fun y hy => by
      cases e : p y with
      | false => rfl
      | true => exact absurd (List.any_eq_true.2 ⟨y, hy, e⟩) hany
    have hF : idx p xs = -1 := idx_miss hn
    have hfl : Hid ((xs.filter fun x => !p x) = xs) := List.filter_eq_self.2 fun y hy => by simp [hn y hy]
    rw [hF] at IC
    clear hany hF hn
    go_enter Try.func115, Try.ntmps115
    go_wp2_with fail
    refine IC.mono ?_
    rintro e w1 ⟨rfl, b1⟩
    go_wp2
    go_ret
    exact ⟨h, by rw [hfl.out]; rfl, by rw [hfl.out]; exact o, Upd.stay hs b1⟩
end Go.Proofs.Ytdcfojohgcmpcaa
end
section
/- slices.Clone over api.Bucket. -/
namespace Go.Proofs.Ytdcfojohgcmpcaa
open Go.RowKit Go.Sl
set_option maxHeartbeats 1000000
set_option maxRecDepth 100000
theorem clone_bucket (A : Option Addr) (ca : Nat) (xs : List STri) (h : Hp) (w : World) (hs : h.sub w) (sx : Sl kTri h A ca xs) (hl : xs.length ≤ 1000000) :
    Calls Try.prog 89 #[.slice A xs.length ca] w fun e w' => ∃ C cap h', e = .returned (.slice C xs.length cap) ∧ Ow kTri h' C cap xs ∧ Upd Hp.none h' w w' := by
  cases A with
  | none =>
    have h0 := sx.nil rfl
    have h1 := sx.le
    obtain rfl : xs = [] := List.eq_nil_of_length_eq_zero (by omega)
    subst h0
    have hn : ∀ W, (binOp .eql 77 (.slice none 0 0) (.slice none 0 0)).run Try.prog W = .ok (.bool true) W := fun W => Lib.run_eql_slice_nil_nil W _ _ Try.underlying77
    go_enter Try.func89, Try.ntmps89
    go_wp2
    go_ret
    exact ⟨none, 0, Hp.none, rfl, Ow.none _ _, Upd.of_below (Below.refl _ _)⟩
  | some ad =>
    have hn : ∀ W, (binOp .eql 77 (.slice (some ad) xs.length ca) (.slice none 0 0)).run Try.prog W = .ok (.bool false) W := fun W => Lib.run_eql_slice_some_nil W _ _ _ Try.underlying77
    go_enter Try.func89, Try.ntmps89
    go_wp2_with (at_builtin; refine wpList_clone Try.underlying77 info_bucket (by rfl) (by rfl) rfl xs.length ca (by rfl) (by rfl) rfl kTri_flat sx (hs.of_below (by repeat (first | exact Below.refl _ _ | apply Below.drew | refine Below.alloc ?_ (by simp) _))) (by omega) (by omega) ?_; intro C' cap' w1 h1 ho1 hu1)
    go_ret
    exact ⟨C', cap', h1, rfl, ho1, hu1.before (by repeat (first | exact Below.refl _ _ | apply Below.drew | refine Below.alloc ?_ (by simp) _))⟩
end Go.Proofs.Ytdcfojohgcmpcaa
end
section
/- The walks of cmp.Compare and cmp.Or over whole numbers. -/
namespace Go.Sl
def cmpI (x y : Int) : Int := if x < y then -1 else if y < x then 1 else 0
def orI (a b : Int) : Int := if a = 0 then b else a
end Go.Sl
namespace Go.Proofs.Ytdcfojohgcmpcaa
open Go.RowKit Go.Sl
set_option maxHeartbeats 1000000
theorem nan_calls (x : Int) (w : World) : Calls Try.prog 110 #[.int .i64 x] w fun e w' => e = .returned (.bool false) ∧ w = w' := by
  go_enter Try.func110, Try.ntmps110
  go_wp2
  go_ret
  exact ⟨by simp, rfl⟩
theorem compare_calls (x y : Int) (w : World) : Calls Try.prog 73 #[.int .i64 x, .int .i64 y] w fun e w' => e = .returned (.int .i64 (cmpI x y)) ∧ w = w' := by
  rcases Int.lt_trichotomy x y with h | h | h
  · have HC : Hid (cmpI x y = -1) := if_pos h
    have t1 : decide (x < y) = true := by simpa using h
    clear h
    go_enter Try.func73, Try.ntmps73
    go_wp2_with (go_at_call 110; refine (nan_calls _ _).mono ?_; rintro e w' ⟨rfl, rfl⟩)
    go_ret
    exact ⟨by rw [HC.out]; rfl, rfl⟩
  · have HC : Hid (cmpI x y = 0) := by unfold Hid cmpI; rw [if_neg (by omega), if_neg (by omega)]
    have t1 : decide (x < y) = false := by simp; omega
    have t2 : decide (y < x) = false := by simp; omega
    clear h
    go_enter Try.func73, Try.ntmps73
    go_wp2_with (go_at_call 110; refine (nan_calls _ _).mono ?_; rintro e w' ⟨rfl, rfl⟩)
    go_ret
    exact ⟨by rw [HC.out]; rfl, rfl⟩
  · have HC : Hid (cmpI x y = 1) := by unfold Hid cmpI; rw [if_neg (by omega), if_pos h]
    have t1 : decide (x < y) = false := by simp; omega
    have t2 : decide (y < x) = true := by simpa using h
    clear h
    go_enter Try.func73, Try.ntmps73
    go_wp2_with (go_at_call 110; refine (nan_calls _ _).mono ?_; rintro e w' ⟨rfl, rfl⟩)
    go_ret
    exact ⟨by rw [HC.out]; rfl, rfl⟩
theorem or_calls (q : Nat) (a b : Int) (w : World) (c0 : w.cell? ⟨q, 0, none⟩ = some (.int .i64 a)) (c1 : w.cell? ⟨q, 1, none⟩ = some (.int .i64 b)) :
    Calls Try.prog 81 #[.slice (some ⟨q, 0, none⟩) 2 2] w fun e w' => e = .returned (.int .i64 (orI a b)) ∧ w = w' := by
  go_enter Try.func81, Try.ntmps81
  go_wp2
  go_loop [8] (fun i => ∃ j : Nat, j ≤ 2 ∧ i = .int .i64 j ∧ Hid (1 ≤ j → a = 0) ∧ Hid (2 ≤ j → b = 0)) (fun i => 2 - (intOf i).toNat)
  case atStart => exact ⟨0, by omega, rfl, by unfold Hid; omega, by unfold Hid; omega⟩
  case round =>
    obtain ⟨j, hj, rfl, h1, h2⟩ := hrel
    have hj3 : j = 0 ∨ j = 1 ∨ j = 2 := by omega
    rcases hj3 with rfl | rfl | rfl
    · by_cases ha : a = 0
      · have t : (a != 0) = false := by simpa using ha
        have HA : Hid (a = 0) := ha
        clear ha
        go_wp2
        go_round
        case rel => exact ⟨1, by omega, by go_num, fun _ => HA.out, by unfold Hid; omega⟩
        case measure => simp [intOf]
      · have t : (a != 0) = true := by simpa using ha
        have HO : Hid (orI a b = a) := if_neg ha
        clear ha
        go_wp2
        go_ret
        exact ⟨by rw [HO.out]; rfl, rfl⟩
    · have HA := Lib.hid (h1.out (by omega))
      by_cases hb : b = 0
      · have t : (b != 0) = false := by simpa using hb
        have HB : Hid (b = 0) := hb
        clear hb
        go_wp2
        go_round
        case rel => exact ⟨2, by omega, by go_num, fun _ => HA.out, fun _ => HB.out⟩
        case measure => simp [intOf]
      · have t : (b != 0) = true := by simpa using hb
        have HO : Hid (orI a b = b) := by unfold Hid orI; rw [if_pos HA.out]
        clear hb
        go_wp2
        go_ret
        exact ⟨by rw [HO.out]; rfl, rfl⟩
    · have HO : Hid (orI a b = 0) := by unfold Hid orI; rw [if_pos (h1.out (by omega))]; exact h2.out (by omega)
      go_wp2
      go_ret
      exact ⟨by rw [HO.out]; rfl, rfl⟩
end Go.Proofs.Ytdcfojohgcmpcaa
end
section
/- Small structs of a body's own, each in a block of its own. No program is named here. -/
namespace Go.Sl
open Go Go.RowKit
section
variable {h : Hp} {w0 w : World} {l : List Hp} {b : Nat} {cs : List Value} {T : TypeId}
abbrev Hp.box (b : Nat) (cs : List Value) (T : TypeId) : Hp := Hp.one b (.cells cs.toArray T (0, 0))
theorem Hp.none_put (b : Nat) (o : Obj) : Hp.none.put b o = Hp.one b o := by funext q; simp [Hp.put, Hp.one, Hp.none]
theorem Upd.oneSet (s : (Hp.box b cs T).sub w) (j : Nat) (v : Value) : Upd (Hp.box b cs T) (Hp.box b (cs.set j v) T) w (w.setCell ⟨b, j, .none⟩ v) := by
  have h := (Upd.field (h := Hp.box b cs T) (hr := Hp.none) (r' := Hp.none) (w1 := w) (v := v) j (Hp.one_self b _) s (Hp.none_le _) (Upd.of_below (Below.refl _ _))).1
  rw [Hp.none_put] at h; exact h
theorem Env.weak {k : Hp} (E : Env w0 w l) (i : Nat) (hi : l[i]? = some h) (hk : k.le h) : Env w0 w (l.set i k) := E.upd i hi ⟨rfl, rfl, rfl, Nat.le_refl _, fun _ _ _ => rfl, (E.sub i hi).le hk, fun q hq => .inl fun hn => by
  cases hh : k q with
  | none => exact hq hh
  | some o => rw [hk q o hh] at hn; cases hn⟩
/-- A field is stored. -/
theorem Env.cellset (E : Env w0 w l) (i : Nat) (hi : l[i]? = some (Hp.box b cs T)) (j : Nat) (v : Value) : Env w0 (w.setCell ⟨b, j, .none⟩ v) (l.set i (Hp.box b (cs.set j v) T)) := E.upd i hi (Upd.oneSet (E.sub i hi) j v)
theorem Env.cell (E : Env w0 w l) (i : Nat) (hi : l[i]? = some (Hp.box b cs T)) (j : Nat) {v : Value} (hv : cs[j]? = some v) : w.cell? ⟨b, j, .none⟩ = some v := by
  rw [cell_of_row w b j _ _ _ (E.sub i hi b _ (Hp.one_self b _))]; simpa using hv
theorem Env.free (E : Env w0 w l) (i : Nat) (hi : l[i]? = some (Hp.box b cs T)) (n : Nat) : w.frozen? ⟨b, n, .none⟩ = false := frozen_of_row w b n _ T (E.sub i hi b _ (Hp.one_self b _))
end
theorem Env.swap2 {w0 w : World} {a b c d : Hp} (E : Env w0 w [a, b, c, d]) : Env w0 w [a, b, d, c] :=
  ⟨⟨E.own.1, fun k hk => E.own.2.1 k (by simp at hk ⊢; rcases hk with h | h | h <;> simp [h]), E.own.2.2.1, fun k hk => E.own.2.2.2.1 k (by simp at hk ⊢; rcases hk with h | h <;> simp [h]), E.own.2.2.2.2.swap⟩, fun h m => E.fr h (by simp at m ⊢; rcases m with h | h | h | h <;> simp [h]), E.low⟩
theorem Below.drN {B : Nat} {a w : World} (h : Below B a w) (n : Nat) : Below B a (w.drewN n) := h.trans ⟨rfl, rfl, rfl, Nat.le_refl _, fun _ _ => rfl⟩
/-- What was made since the start. -/
theorem Env.made {w0 w : World} {l : List Hp} {h : Hp} (E : Env w0 w l) (m : h ∈ l) : Upd Hp.none h w0 w := ⟨E.low.os, E.low.tape, E.low.output, E.low.size, fun q hq _ => E.low.block q hq, E.own.mem h m, fun q hq => .inr (E.fr h m q hq)⟩
/-- A call that turns nothing, in a quiet region: the first one of a walk, or a later one. -/
theorem quiet_one {P : Program} {f : FuncId} {args : Array Value} {W : World} {n : Nat} {v : Value} (h : Calls P f args (W.drewN n) fun e w' => e = .returned v ∧ W.drewN n = w') :
    Calls P f args (W.drewN n) fun e w' => e = .returned v ∧ ∃ m, w' = W.drewN m := h.mono fun _ _ ⟨a, b⟩ => ⟨a, n, b.symm⟩
theorem quiet_more {P : Program} {f : FuncId} {args : Array Value} {W : World} {k n : Nat} {v : Value} (h : Calls P f args (W.drewN (k + n)) fun e w' => e = .returned v ∧ W.drewN (k + n) = w') :
    Calls P f args (W.drewN (k + n)) fun e w' => e = .returned v ∧ ∃ m, w' = W.drewN (k + m) := h.mono fun _ _ ⟨a, b⟩ => ⟨a, n, b.symm⟩
end Go.Sl
end
section
/- Plain facts of lists and registers, a register's own struct. No program is named here. -/
namespace Go.Sl
open Go Go.RowKit
theorem find_hit {κ α : Type} [DecidableEq κ] {key : α → κ} {k : κ} {l : List α} {j : Nat} {x : α} (h : ∀ y ∈ l.take j, key y ≠ k) (hx : l[j]? = some x) (hk : key x = k) : find key k l = some x := by
  have hj := List.getElem?_eq_some_iff.1 hx
  have e : l = l.take j ++ x :: l.drop (j + 1) := by
    have := List.take_append_drop j l
    rw [List.drop_eq_getElem_cons hj.1, hj.2] at this; exact this.symm
  unfold find
  rw [e, List.find?_append]
  have h2 : (l.take j).find? (fun y => decide (key y = k)) = none := by
    rw [List.find?_eq_none]; intro y hy; simpa using h y hy
  rw [h2]; simp [hk]
theorem find_miss {κ α : Type} [DecidableEq κ] {key : α → κ} {k : κ} {l : List α} (h : ∀ y ∈ l, key y ≠ k) : find key k l = none := by
  unfold find; rw [List.find?_eq_none]; intro y hy; simpa using h y hy
theorem drop_next {α : Type} {xs : List α} {i : Nat} {x : α} (h : Hid (xs[i]? = some x)) : xs.drop i = x :: xs.drop (i + 1) := by
  have h2 := List.getElem?_eq_some_iff.1 h.out
  rw [List.drop_eq_getElem_cons h2.1, h2.2]
/-- A register's own struct. -/
def kReg : Kd (List STri) where
  size := 1
  K h l cs := ∃ A cap, cs = [.slice A l.length cap] ∧ Ow kTri h A cap l
  pos := by decide
  len := by rintro h x cs ⟨A, cap, rfl, _⟩; rfl
  one := by rintro h x cs ⟨A, cap, rfl, _⟩ u hu; simp at hu; subst hu; rfl
  mono := by rintro h h' x cs ⟨A, cap, e, s⟩ l; exact ⟨A, cap, e, s.mono l⟩
theorem Pt.reg {T : TypeId} {h : Hp} {b : Nat} {l : List STri} {w : World} (p : Pt kReg T h b l) (s : h.sub w) : ∃ A ca, w.cell? ⟨b, 0, none⟩ = some (.slice A l.length ca) ∧ Sl kTri h A ca l := by
  obtain ⟨cs, hb, A, ca, rfl, ow⟩ := p
  exact ⟨A, ca, by rw [cell_of_row w b 0 _ _ _ (s b _ hb)]; rfl, ow.sl.mono (Hp.del_le _ _)⟩
theorem sumC_snoc (l : List STri) (x : STri) : sumC (l ++ [x]) = sumC l + x.c := by simp [sumC]
end Go.Sl
end
section
/- The walk of ref01.Money. -/
namespace Go.Proofs.Ytdcfojohgcmpcaa
open Go.RowKit Go.Sl
set_option maxHeartbeats 400000
theorem refMoney_calls (n : Int) (w : World) : Calls Try.prog 84 #[.int .i64 n] w fun e w' => e = .returned (.bool (money n)) ∧ w = w' := by
  go_enter Try.func84, Try.ntmps84
  go_wp2
  all_goals
    go_ret
    exact ⟨by simp [money]; omega, rfl⟩
end Go.Proofs.Ytdcfojohgcmpcaa
end
section
/- The walks of the reference's register: Get, Total, set. -/
namespace Go.Proofs.Ytdcfojohgcmpcaa
open Go.RowKit Go.Sl
set_option maxHeartbeats 1000000
set_option maxRecDepth 100000
theorem refGet_calls (p : Nat) (A : Option Addr) (ca : Nat) (l : List STri) (c y : Int) (h : Hp) (w : World) (hs : h.sub w) (hc : w.cell? ⟨p, 0, none⟩ = some (.slice A l.length ca)) (sx : Sl kTri h A ca l) :
    Calls Try.prog 47 #[.pointer (some ⟨p, 0, none⟩), .int .i64 c, .int .i64 y] w fun e w' => e = .returned (.int .i64 (getB l c y)) ∧ Below w.heap.size w w' := by
  have m1 := sx.small
  go_enter Try.func47, Try.ntmps47
  go_wp2
  go_loopw [14] (fun i wr => ∃ (j : Nat), j ≤ l.length ∧ i = .int .i64 j ∧ Hid (∀ z ∈ l.take j, rkey z ≠ (c, y)) ∧ Below w.heap.size w wr) (fun i _ => l.length - (intOf i).toNat)
  case atStart => exact ⟨0, by omega, rfl, by unfold Hid; simp, Below.refl _ _⟩
  case round =>
    obtain ⟨j, hj, rfl, hn, hb⟩ := hrel
    by_cases hlt : j < l.length
    · obtain ⟨x, hx⟩ := some_of_lt hlt
      obtain ⟨b1, o1, rfl, c1, c2, c3⟩ := sx.tri (hs.of_below hb) hx
      have i1 : (0 : Int) ≤ (j : Int) := by omega
      have i2 : (j : Int) < (l.length : Int) := by omega
      have HN : rkey x ≠ (c, y) → Hid (∀ z ∈ l.take (j + 1), rkey z ≠ (c, y)) := fun h z hz => by
        rw [take_next hx] at hz
        rcases List.mem_append.1 hz with hz | hz
        · exact hn.out z hz
        · simp at hz; rw [hz]; exact h
      by_cases ha : x.a = c
      · by_cases hbb : x.b = y
        · have HF : Hid (getB l c y = x.c) := by
            unfold Hid getB; rw [find_hit hn.out hx.out (by simp [rkey, ha, hbb])]
          have t1 : (x.a == c) = true := by simpa using ha
          have t2 : (x.b == y) = true := by simpa using hbb
          clear ha hbb HN
          go_wp2
          go_ret
          exact ⟨by rw [HF.out]; rfl, hb.alloc hb.size _⟩
        · have HN' := HN (by simp [rkey, hbb])
          have t1 : (x.a == c) = true := by simpa using ha
          have t2 : (x.b == y) = false := by simpa using hbb
          clear ha hbb HN
          go_wp2
          go_roundw
          case rel => exact ⟨j + 1, by omega, by go_num, HN', hb.alloc hb.size _⟩
          case measure => simp [intOf]; omega
      · have HN' := HN (by simp [rkey, ha])
        have t1 : (x.a == c) = false := by simpa using ha
        clear ha HN
        go_wp2
        go_roundw
        case rel => exact ⟨j + 1, by omega, by go_num, HN', hb.alloc hb.size _⟩
        case measure => simp [intOf]; omega
    · have HF : Hid (getB l c y = 0) := by
        unfold Hid getB; rw [find_miss fun z hz => hn.out z (by rw [List.take_of_length_le (by omega)]; exact hz)]
      go_wp2
      go_ret
      exact ⟨by rw [HF.out]; rfl, hb⟩
theorem refTotal_calls (p : Nat) (A : Option Addr) (ca : Nat) (l : List STri) (h : Hp) (w : World) (hs : h.sub w) (hc : w.cell? ⟨p, 0, none⟩ = some (.slice A l.length ca)) (sx : Sl kTri h A ca l) (hl : l.length ≤ 1000) (hm : ∀ b ∈ l, -100000000000 ≤ b.c ∧ b.c ≤ 100000000000) :
    Calls Try.prog 46 #[.pointer (some ⟨p, 0, none⟩)] w fun e w' => e = .returned (.int .i64 (sumC l)) ∧ Below w.heap.size w w' := by
  have m1 := sx.small
  have HM := Lib.hid hm
  clear hm
  go_enter Try.func46, Try.ntmps46
  go_wp2
  go_loopw [3, 11] (fun s i wr => ∃ (j : Nat), j ≤ l.length ∧ i = .int .i64 j ∧ s = .int .i64 (sumC (l.take j)) ∧ Below w.heap.size w wr) (fun _ i _ => l.length - (intOf i).toNat)
  case atStart => exact ⟨0, by omega, rfl, rfl, Below.refl _ _⟩
  case round =>
    obtain ⟨j, hj, rfl, rfl, hb⟩ := hrel
    by_cases hlt : j < l.length
    · obtain ⟨x, hx⟩ := some_of_lt hlt
      obtain ⟨b1, o1, rfl, c1, c2, c3⟩ := sx.tri (hs.of_below hb) hx
      have i1 : (0 : Int) ≤ (j : Int) := by omega
      have i2 : (j : Int) < (l.length : Int) := by omega
      have q1 := HM.out x (List.mem_of_getElem? hx.out)
      have q2 := sumC_bd (m := 100000000000) (by omega) (l.take j) fun b hb => HM.out b (List.mem_of_mem_take hb)
      rw [List.length_take] at q2
      obtain ⟨q3, q4⟩ : -1000000000000000 ≤ sumC (l.take j) ∧ sumC (l.take j) ≤ 1000000000000000 := by omega
      clear q2
      have HT : Hid (sumC (l.take (j + 1)) = sumC (l.take j) + x.c) := by unfold Hid; rw [take_next hx, sumC_snoc]
      go_wp2
      go_roundw
      case rel => exact ⟨j + 1, by omega, by go_num, by rw [HT.out], hb.alloc hb.size _⟩
      case measure => simp [intOf]; omega
    · obtain rfl : j = l.length := by omega
      rw [List.take_length]
      go_wp2
      go_ret
      exact ⟨rfl, hb⟩
theorem refBucket_calls (c y : Int) (w : World) : Calls Try.prog 93 #[.int .i64 c, .int .i64 y] w fun e w' => e = .returned (.bool (bucketOk c y)) ∧ w = w' := by
  have Y : ∀ (y : Int) (w : World), Calls Try.prog 120 #[.int .i64 y] w fun e w' => e = .returned (.bool (decide (0 ≤ y ∧ y ≤ 99))) ∧ w = w' := fun y w => by
    go_enter Try.func120, Try.ntmps120
    go_wp2
    all_goals
      go_ret
      exact ⟨by simp; omega, rfl⟩
  have HB : ∀ b : Bool, b = decide (0 ≤ y ∧ y ≤ 99) → Hid (bucketOk c y = (decide (1 ≤ c ∧ c ≤ 9) && b)) := fun b hb => by
    unfold Hid bucketOk; rw [hb, Bool.eq_iff_iff]; simp; omega
  have YC := Y y
  generalize hq : decide (0 ≤ y ∧ y ≤ 99) = q at *
  have HB' := HB q rfl
  clear HB hq Y
  go_enter Try.func93, Try.ntmps93
  go_wp2_with (go_at_call 120; refine (YC _).mono ?_; rintro e w' ⟨rfl, rfl⟩)
  all_goals
    go_ret
    exact ⟨by rw [HB'.out]; simp; omega, rfl⟩
end Go.Proofs.Ytdcfojohgcmpcaa
end
section
/- The walks of bucket.New, Clone, Rows, at, Get, Total. -/
namespace Go.Sl
def cfTri (x y : STri) : Int := orI (cmpI x.a y.a) (cmpI x.b y.b)
theorem lt_tri (x y : STri) : Go.Proofs.ltOf cfTri x y = ordPair.lt (rkey x) (rkey y) := by
  unfold Go.Proofs.ltOf cfTri orI cmpI
  simp only [ordPair, rkey]
  rw [decide_eq_decide]
  split <;> split <;> (try split) <;> (try split) <;> omega
end Go.Sl
namespace Go.Proofs.Ytdcfojohgcmpcaa
open Go.RowKit Go.Sl Go.Sort
set_option maxHeartbeats 2000000
set_option maxRecDepth 100000
abbrev PtB (h : Hp) (b : Nat) (r : List STri) : Prop := Pt (kOne kTri) 133 h b r
theorem buckNew_calls (w : World) : Calls Try.prog 35 #[] w fun e w' => ∃ h b, e = .returned (.pointer (some ⟨b, 0, none⟩)) ∧ PtB h b [] ∧ Upd Hp.none h w w' := by
  go_enter Try.func35, Try.ntmps35
  go_wp2
  go_ret
  exact ⟨_, _, rfl, ⟨_, Hp.one_self _ _, none, 0, rfl, Ow.none _ _⟩, Upd.newBlock w _⟩
theorem buckClone_calls (b : Nat) (r : List STri) (h : Hp) (w : World) (hs : h.sub w) (p : PtB h b r) (hl : r.length ≤ 1000000) :
    Calls Try.prog 43 #[.pointer (some ⟨b, 0, none⟩)] w fun e w' => ∃ h' b', e = .returned (.pointer (some ⟨b', 0, none⟩)) ∧ PtB h' b' r ∧ Upd Hp.none h' w w' := by
  obtain ⟨A, ca, hb, hc, ow, _⟩ := p.one hs
  have CC := clone_bucket A ca r (h.del b) w (hs.del b) ow.sl hl
  go_enter Try.func43, Try.ntmps43
  go_wp2_with fail
  refine CC.mono ?_
  rintro e w1 ⟨C, cap, h1, rfl, o1, u1⟩
  go_wp2
  go_ret
  exact ⟨_, _, rfl, ⟨_, Hp.put_self, C, cap, rfl, by rw [Hp.put_del (u1.sub.free (Nat.le_refl _))]; exact o1⟩, u1.put⟩
theorem buckCmp_calls (x y : STri) (W : World) : Calls Try.prog 91 #[.agg #[.int .i64 x.a, .int .i64 x.b, .int .i64 x.c], .agg #[.int .i64 y.a, .int .i64 y.b, .int .i64 y.c]] W fun e W' => e = .returned (.int .i64 (cfTri x y)) ∧ ∃ q os', W' = grow (W.drewN q) os' := by
  have HC : Hid (cfTri x y = orI (cmpI x.a y.a) (cmpI x.b y.b)) := rfl
  generalize cfTri x y = r at *
  have C1 := fun W : World => compare_calls x.a y.a W
  have C2 := fun W : World => compare_calls x.b y.b W
  generalize cmpI x.a y.a = a at *
  generalize cmpI x.b y.b = b at *
  go_enter Try.func91, Try.ntmps91
  go_wp2
  go_region_held3 (fun w' => w'.cell? ⟨W.heap.size, 0, none⟩ = some (.int .i64 x.a) ∧ w'.cell? ⟨W.heap.size, 1, none⟩ = some (.int .i64 x.b) ∧ w'.cell? ⟨W.heap.size + 1, 0, none⟩ = some (.int .i64 y.a) ∧ w'.cell? ⟨W.heap.size + 1, 1, none⟩ = some (.int .i64 y.b))
    (go_keep)
    (first
      | (go_at_call 73; ((with_reducible refine (C1 _).mono ?_)); rintro e w' ⟨rfl, rfl⟩)
      | (go_at_call 73; ((with_reducible refine (C2 _).mono ?_)); rintro e w' ⟨rfl, rfl⟩)
      | (go_at_call 81; have OC := fun (V : World) (h0 : V.heap[W.heap.size + 1 + 1]? = some (.cells #[.int .i64 a, .int .i64 b] 3)) => or_calls (W.heap.size + 1 + 1) a b V (by rw [cell_of_row V _ 0 _ _ _ h0]; rfl) (by rw [cell_of_row V _ 1 _ _ _ h0]; rfl); refine (OC _ (by rw [show ∀ V : World, V.drew.heap = V.heap from fun _ => rfl]; exact heap_new_at (by simp))).mono ?_; rintro e w' ⟨rfl, rfl⟩)
      | fail)
  go_wp2
  go_ret
  exact ⟨by rw [HC.out]; rfl, 1, _, by rw [alloc_eq_grow, alloc_eq_grow, alloc_eq_grow]; simp only [grow_grow, drew_grow]; rfl⟩
theorem buckRows_calls (b : Nat) (r : List STri) (h : Hp) (w : World) (hs : h.sub w) (p : PtB h b r) (hd : DistR r) (hl : r.length ≤ 1000000) :
    Calls Try.prog 37 #[.pointer (some ⟨b, 0, none⟩)] w fun e w' => ∃ C cap h', e = .returned (.slice C r.length cap) ∧ Ow kTri h' C cap (isort ordPair rkey r) ∧ Upd Hp.none h' w w' := by
  obtain ⟨A, ca, hb, hc, ow, _⟩ := p.one hs
  have CC := clone_bucket A ca r (h.del b) w (hs.del b) ow.sl hl
  have eg : ∀ args w, (callFunc 91 args).run Try.prog w = .ok (.enter 91 args) w := enters_of Try.func91 (by kernel_rfl) rfl
  have SC := fun (C : Option Addr) (cc : Nat) (h1 : Hp) (w1 : World) (s : h1.sub w1) (o : Ow kTri h1 C cc r) => sortFunc_bucket ordPair rkey cfTri lt_tri 91 eg buckCmp_calls C cc r h1 w1 s o hd hl
  generalize isort ordPair rkey r = so at *
  go_enter Try.func37, Try.ntmps37
  go_wp2_with fail
  refine CC.mono ?_
  rintro e w1 ⟨C, cap, h1, rfl, o1, u1⟩
  go_wp2_with fail
  refine (SC _ _ _ _ u1.sub o1).mono ?_
  rintro e w2 ⟨h2, rfl, o2, u2⟩
  go_wp2
  go_ret
  exact ⟨C, cap, h2, rfl, o2, u1.trans u2⟩
theorem buckSame_calls (x : STri) (b5 b6 : Nat) (c y : Int) (W : World) (c5 : W.cell? ⟨b5, 0, none⟩ = some (.int .i64 c)) (c6 : W.cell? ⟨b6, 0, none⟩ = some (.int .i64 y)) :
    Calls Try.prog 119 #[.agg #[.int .i64 x.a, .int .i64 x.b, .int .i64 x.c], .pointer (some ⟨b5, 0, none⟩), .pointer (some ⟨b6, 0, none⟩)] W fun e W' => e = .returned (.bool (isB c y x)) ∧ Below W.heap.size W W' := by
  have c5a := fun o => (cell_alloc (o := o) (World.block_lt_of_cell? _ _ c5)).trans c5
  have c6a := fun o => (cell_alloc (o := o) (World.block_lt_of_cell? _ _ c6)).trans c6
  have HI : isB c y x = decide (x.a = c ∧ x.b = y) := rfl
  generalize isB c y x = r at *
  by_cases h1 : x.a = c
  · have t1 : (x.a == c) = true := by simpa using h1
    by_cases h2 : x.b = y
    · have t2 : (x.b == y) = true := by simpa using h2
      have hr : Hid (r = true) := by unfold Hid; rw [HI]; simp [h1, h2]
      clear HI h1 h2
      go_enter Try.func119, Try.ntmps119
      go_wp2
      go_ret
      exact ⟨by rw [hr.out]; rfl, (by repeat (first | exact Below.refl _ _ | apply Below.drew | refine Below.alloc ?_ (by simp) _))⟩
    · have t2 : (x.b == y) = false := by simpa using h2
      have hr : Hid (r = false) := by unfold Hid; rw [HI]; simp [h2]
      clear HI h1 h2
      go_enter Try.func119, Try.ntmps119
      go_wp2
      go_ret
      exact ⟨by rw [hr.out]; rfl, (by repeat (first | exact Below.refl _ _ | apply Below.drew | refine Below.alloc ?_ (by simp) _))⟩
  · have t1 : (x.a == c) = false := by simpa using h1
    have hr : Hid (r = false) := by unfold Hid; rw [HI]; simp [h1]
    clear HI h1
    go_enter Try.func119, Try.ntmps119
    go_wp2
    go_ret
    exact ⟨by rw [hr.out]; rfl, (by repeat (first | exact Below.refl _ _ | apply Below.drew | refine Below.alloc ?_ (by simp) _))⟩
theorem buckAt_calls (b : Nat) (r : List STri) (c y : Int) (h : Hp) (w : World) (hs : h.sub w) (p : PtB h b r) :
    Calls Try.prog 92 #[.pointer (some ⟨b, 0, none⟩), .int .i64 c, .int .i64 y] w fun e w' => e = .returned (.int .i64 (idx (isB c y) r)) ∧ Below w.heap.size w w' := by
  obtain ⟨A, ca, hb, hc, ow, _⟩ := p.one hs
  have eg : ∀ args w, (callFunc 119 args).run Try.prog w = .ok (.enter 119 args) w := enters_of Try.func119 (by kernel_rfl) rfl
  have EW := ((Env.start w).alloc (.cells #[.int .i64 c] 3)).alloc (.cells #[.int .i64 y] 3)
  simp at EW
  have hcE := (EW.low.cell (p := ⟨b, 0, none⟩) (World.block_lt_of_cell? _ _ hc)).trans hc
  have IC := fun (W : World) (E : Env w W [Hp.box w.heap.size [.int .i64 c] 3, Hp.box (w.heap.size + 1) [.int .i64 y] 3]) =>
    indexFunc_bucket 119 #[.pointer (some ⟨w.heap.size, 0, none⟩), .pointer (some ⟨w.heap.size + 1, 0, none⟩)] eg (isB c y) A ca r (h.del b) W ((hs.del b).of_below E.low) ow.sl
      (fun x W' hW => buckSame_calls x w.heap.size (w.heap.size + 1) c y W' ((E.below hW).cell 0 rfl 0 rfl) ((E.below hW).cell 1 rfl 0 rfl))
  generalize idx (isB c y) r = ii at *
  go_enter Try.func92, Try.ntmps92
  go_wp2_with fail
  refine (IC _ EW).mono ?_
  rintro e w1 ⟨rfl, b1⟩
  go_wp2
  go_ret
  exact ⟨rfl, (EW.below b1).low⟩
theorem buckGet_calls (b : Nat) (r : List STri) (c y : Int) (h : Hp) (w : World) (hs : h.sub w) (p : PtB h b r) :
    Calls Try.prog 42 #[.pointer (some ⟨b, 0, none⟩), .int .i64 c, .int .i64 y] w fun e w' => e = .returned (.int .i64 (getB r c y)) ∧ Below w.heap.size w w' := by
  obtain ⟨A, ca, hb, hc, ow, _⟩ := p.one hs
  have hlt : b < w.heap.size := World.block_lt_of_cell? _ _ hc
  have AC := buckAt_calls b r c y h w hs p
  have lm := ow.small
  rcases getB_idx r c y with ⟨hi, hv, _⟩ | ⟨i, x, hx, hi, hv, _, _⟩
  · rw [hi] at AC
    have HV := Lib.hid hv
    clear hi hv
    go_enter Try.func42, Try.ntmps42
    go_wp2_with fail
    refine AC.mono ?_
    rintro e w1 ⟨rfl, b1⟩
    go_wp2
    go_ret
    exact ⟨by rw [HV.out]; rfl, b1⟩
  · rw [hi] at AC
    have HV := Lib.hid hv
    have hil : i < r.length := (List.getElem?_eq_some_iff.1 hx).1
    have i1 : (0 : Int) ≤ (i : Int) := by omega
    have i2 : (i : Int) < (r.length : Int) := by omega
    have hxx := Lib.hid hx
    clear hi hv hx
    go_enter Try.func42, Try.ntmps42
    go_wp2_with fail
    refine AC.mono ?_
    rintro e w1 ⟨rfl, b1⟩
    have hc1 := (b1.cell (p := ⟨b, 0, none⟩) hlt).trans hc
    obtain ⟨bx, ox, rfl, c1, c2, c3⟩ := ow.sl.tri ((hs.del b).of_below b1) hxx
    go_wp2
    go_ret
    exact ⟨by rw [HV.out]; rfl, b1⟩
theorem buckTotal_calls (b : Nat) (r : List STri) (h : Hp) (w : World) (hs : h.sub w) (p : PtB h b r) (hl : r.length ≤ 1000) (hm : ∀ b ∈ r, -100000000000 ≤ b.c ∧ b.c ≤ 100000000000) :
    Calls Try.prog 39 #[.pointer (some ⟨b, 0, none⟩)] w fun e w' => e = .returned (.int .i64 (sumC r)) ∧ Below w.heap.size w w' := by
  obtain ⟨A, ca, _, hc, ow, _⟩ := p.one hs
  have sx := ow.sl
  have m1 := sx.small
  have HM := Lib.hid hm
  clear hm
  go_enter Try.func39, Try.ntmps39
  go_wp2
  go_loopw [3, 11] (fun s i wr => ∃ (j : Nat), j ≤ r.length ∧ i = .int .i64 j ∧ s = .int .i64 (sumC (r.take j)) ∧ Below w.heap.size w wr) (fun _ i _ => r.length - (intOf i).toNat)
  case atStart => exact ⟨0, by omega, rfl, rfl, Below.refl _ _⟩
  case round =>
    obtain ⟨j, hj, rfl, rfl, hb⟩ := hrel
    by_cases hlt : j < r.length
    · obtain ⟨x, hx⟩ := some_of_lt hlt
      obtain ⟨b1, o1, rfl, c1, c2, c3⟩ := sx.tri ((hs.del b).of_below hb) hx
      have i1 : (0 : Int) ≤ (j : Int) := by omega
      have i2 : (j : Int) < (r.length : Int) := by omega
      have q1 := HM.out x (List.mem_of_getElem? hx.out)
      have q2 := sumC_bd (m := 100000000000) (by omega) (r.take j) fun b hb => HM.out b (List.mem_of_mem_take hb)
      rw [List.length_take] at q2
      obtain ⟨q3, q4⟩ : -1000000000000000 ≤ sumC (r.take j) ∧ sumC (r.take j) ≤ 1000000000000000 := by omega
      clear q2
      have HT : Hid (sumC (r.take (j + 1)) = sumC (r.take j) + x.c) := by unfold Hid; rw [take_next hx, sumC_snoc]
      go_wp2
      go_roundw
      case rel => exact ⟨j + 1, by omega, by go_num, by rw [HT.out], hb.alloc hb.size _⟩
      case measure => simp [intOf]; omega
    · obtain rfl : j = r.length := by omega
      rw [List.take_length]
      go_wp2
      go_ret
      exact ⟨rfl, hb⟩
end Go.Proofs.Ytdcfojohgcmpcaa
end
section
/- The walks of bucket.set, right, take. -/
namespace Go.Proofs.Ytdcfojohgcmpcaa
open Go.RowKit Go.Sl Go.Sort
set_option maxHeartbeats 2000000
set_option maxRecDepth 100000
theorem buckZero_calls (x : STri) (W : World) : Calls Try.prog 116 #[.agg #[.int .i64 x.a, .int .i64 x.b, .int .i64 x.c]] W fun e W' => e = .returned (.bool (zeroB x)) ∧ Below W.heap.size W W' := by
  have t : Hid ((x.c == 0) = zeroB x) := by unfold Hid zeroB; rw [Bool.eq_iff_iff]; simp
  go_enter Try.func116, Try.ntmps116
  go_wp2
  go_ret
  exact ⟨by rw [← t.out]; rfl, (by repeat (first | exact Below.refl _ _ | apply Below.drew | refine Below.alloc ?_ (by simp) _))⟩
theorem ret_bool {b b' : Bool} (h : b = true ↔ b' = true) : Ending.returned (.bool b) = .returned (.bool b') := by rw [Bool.eq_iff_iff.2 h]
theorem buckRight_calls (c y : Int) (w : World) : Calls Try.prog 86 #[.int .i64 c, .int .i64 y] w fun e w' => e = .returned (.bool (bucketOk c y)) ∧ w = w' := by
  have HB : Hid (bucketOk c y = decide (1 ≤ c ∧ c ≤ 9 ∧ 0 ≤ y ∧ y ≤ 99)) := rfl
  go_enter Try.func86, Try.ntmps86
  go_wp2
  all_goals
    go_ret
    exact ⟨by rw [HB.out]; exact ret_bool (by simp; omega), rfl⟩
theorem buckTakeNo_calls (b b' : Nat) (A' : Option Addr) (n' ca' : Nat) (w : World) (hc' : w.cell? ⟨b', 0, none⟩ = some (.slice A' n' ca')) (hn : 12 < n') :
    Calls Try.prog 88 #[.pointer (some ⟨b, 0, none⟩), .pointer (some ⟨b', 0, none⟩)] w fun e w' => e = .returned (.int .i64 5) ∧ w = w' := by
  have t : decide ((12 : Int) < (n' : Int)) = true := by simp; omega
  go_enter Try.func88, Try.ntmps88
  go_wp2
  go_ret
  exact ⟨rfl, rfl⟩
theorem buckTake_calls (b b' : Nat) (A A' : Option Addr) (n n' ca ca' : Nat) (w : World) (hc : w.cell? ⟨b, 0, none⟩ = some (.slice A n ca)) (hf : w.frozen? ⟨b, 0, none⟩ = false) (hc' : w.cell? ⟨b', 0, none⟩ = some (.slice A' n' ca')) (hn : ¬12 < n') :
    Calls Try.prog 88 #[.pointer (some ⟨b, 0, none⟩), .pointer (some ⟨b', 0, none⟩)] w fun e w' => e = .returned (.int .i64 0) ∧ w.setCell ⟨b, 0, none⟩ (.slice A' n' ca') = w' := by
  have t : decide ((12 : Int) < (n' : Int)) = false := by simp; omega
  go_enter Try.func88, Try.ntmps88
  go_wp2
  go_ret
  exact ⟨rfl, rfl⟩
/-- What is 0 goes: the end of set. -/
theorem buckClean {b n ca : Nat} {A : Option Addr} {L : List STri} {h h1 : Hp} {w W : World} (u1 : Upd h h1 w W) (hb : h1 b = some (.cells #[.slice A n ca] 133 (0, 0))) (hn : L.length = n) (ow : Ow kTri (h1.del b) A ca L) (hl : n ≤ 1000000) :
      Calls Try.prog 115 #[.slice A n ca, .func (.func 116) #[] #[]] W fun e w2 => e = .returned (.slice A (L.filter fun z => !zeroB z).length ca) ∧
        w2.cell? ⟨b, 0, none⟩ = some (.slice A n ca) ∧ w2.frozen? ⟨b, 0, none⟩ = false ∧
        Hid (∃ h', PtB h' b (L.filter fun z => !zeroB z) ∧ Upd h h' w (w2.setCell ⟨b, 0, none⟩ (.slice A (L.filter fun z => !zeroB z).length ca))) := by
  subst hn
  have hs1 := u1.sub
  have hc : W.cell? ⟨b, 0, none⟩ = some (.slice A L.length ca) := by rw [cell_of_row W b 0 _ _ _ (hs1 b _ hb)]; rfl
  have hf : ∀ n, W.frozen? ⟨b, n, none⟩ = false := fun n => frozen_of_row W b n _ _ (hs1 b _ hb)
  have hlt : b < W.heap.size := World.block_lt_of_cell? _ _ hc
  have eg : ∀ args w, (callFunc 116 args).run Try.prog w = .ok (.enter 116 args) w := enters_of Try.func116 (by kernel_rfl) rfl
  refine (deleteFunc_bucket 116 #[] eg zeroB A ca L (h1.del b) W (hs1.del b) ow hl (fun x W' k u => buckZero_calls x W')).mono ?_
  rintro e w2 ⟨h2, rfl, o2, u2⟩
  obtain ⟨UF, hn⟩ := Upd.field (v := .slice A (L.filter fun z => !zeroB z).length ca) 0 hb hs1 (Hp.le_refl _) u2
  exact ⟨rfl, (u2.cell hc Hp.del_self), (u2.frozen hlt Hp.del_self).trans (hf 0), ⟨_, ⟨_, Hp.put_self, A, ca, rfl, by rw [Hp.put_del hn]; exact o2⟩, u1.trans UF⟩⟩
end Go.Proofs.Ytdcfojohgcmpcaa
end
