/- Walks and plain facts that the laws of this seat share, part 3: contracts of functions, each said at its theorem. -/
import Derived.Test.YtdcfojohgcmpcaaPk2
import Derived.Test.YtdcfojohgcmpcaaChecked
import Derived.Shelf.SlSortCmp.WholeK
import Derived.Shelf.SlGeneric
import Derived.StillTailTactics
import Derived.Deep.QuietTactic
import Derived.BigQuiet
import Derived.Deep.RegionHeld3
import Derived.WalkKit
import Derived.Laws.StructEq
set_option linter.all false
section
/- The library's slices.SortFunc over api.Item, laid at this program in plain words. -/
namespace Go.Proofs
open Go.Shelf
def Try.sortItem_ren : Go.Shelf.Ren := ⟨fun | 6 => 71 | 15 => 109 | 14 => 108 | 28 => 139 | 29 => 140 | 20 => 131 | 21 => 132 | 22 => 133 | 23 => 134 | 24 => 135 | 25 => 136 | 26 => 137 | 27 => 138 | 46 => 167 | 47 => 168 | 48 => 169 | 49 => 170 | 50 => 171 | 57 => 182 | n => n, fun | 22 => 37 | 24 => 36 | 25 => 120 | 3 => 3 | 39 => 153 | 0 => 0 | 53 => 171 | 55 => 173 | 4 => 4 | 46 => 165 | 45 => 164 | 50 => 114 | 5 => 5 | 9 => 9 | 66 => 192 | 70 => 196 | 76 => 208 | 77 => 209 | n => n, fun | n => n⟩
theorem Try.sortItem : Go.Proofs.SlLaysF0.n6 Try.prog Try.sortItem_ren := {
  mixed := by kernel_rfl
  f6 := ⟨Try.f71.name, by decide, Try.func71.trans (congrArg some (by kernel_rfl))⟩
  f14 := ⟨Try.f108.name, by decide, Try.func108.trans (congrArg some (by kernel_rfl))⟩
  f15 := Try.func109.trans (congrArg some (by kernel_rfl))
  f20 := ⟨Try.f131.name, by decide, Try.func131.trans (congrArg some (by kernel_rfl))⟩
  f21 := ⟨Try.f132.name, by decide, Try.func132.trans (congrArg some (by kernel_rfl))⟩
  f22 := ⟨Try.f133.name, by decide, Try.func133.trans (congrArg some (by kernel_rfl))⟩
  f23 := ⟨Try.f134.name, by decide, Try.func134.trans (congrArg some (by kernel_rfl))⟩
  f24 := ⟨Try.f135.name, by decide, Try.func135.trans (congrArg some (by kernel_rfl))⟩
  f25 := ⟨Try.f136.name, by decide, Try.func136.trans (congrArg some (by kernel_rfl))⟩
  f26 := ⟨Try.f137.name, by decide, Try.func137.trans (congrArg some (by kernel_rfl))⟩
  f27 := ⟨Try.f138.name, by decide, Try.func138.trans (congrArg some (by kernel_rfl))⟩
  f28 := Try.func139.trans (congrArg some (by kernel_rfl))
  f29 := Try.func140.trans (congrArg some (by kernel_rfl))
  f46 := ⟨Try.f167.name, by decide, Try.func167.trans (congrArg some (by kernel_rfl))⟩
  f47 := Try.func168.trans (congrArg some (by kernel_rfl))
  f48 := Try.func169.trans (congrArg some (by kernel_rfl))
  f49 := ⟨Try.f170.name, by decide, Try.func170.trans (congrArg some (by kernel_rfl))⟩
  f50 := ⟨Try.f171.name, by decide, Try.func171.trans (congrArg some (by kernel_rfl))⟩
  f57 := ⟨Try.f182.name, by decide, Try.func182.trans (congrArg some (by kernel_rfl))⟩
  t0 := Try.underlying0
  a0 := Try.isAgg0
  z0 := Try.sizeOf0
  v0 := Try.zeroValue0
  t3 := Try.underlying3
  a3 := Try.isAgg3
  z3 := Try.sizeOf3
  v3 := Try.zeroValue3
  t4 := Try.underlying4
  a4 := Try.isAgg4
  z4 := Try.sizeOf4
  v4 := Try.zeroValue4
  t5 := Try.underlying5
  a5 := Try.isAgg5
  z5 := Try.sizeOf5
  v5 := Try.zeroValue5
  t9 := Try.underlying9
  a9 := Try.isAgg9
  z9 := Try.sizeOf9
  v9 := Try.zeroValue9
  t22 := Try.underlying37
  a22 := Try.isAgg37
  z22 := Try.sizeOf37
  v22 := Try.zeroValue37
  t25 := Try.underlying120
  a25 := Try.isAgg120
  z25 := Try.sizeOf120
  v25 := Try.zeroValue120
  t39 := Try.underlying153
  a39 := Try.isAgg153
  z39 := Try.sizeOf153
  v39 := Try.zeroValue153
  t45 := Try.underlying164
  a45 := Try.isAgg164
  z45 := Try.sizeOf164
  v45 := Try.zeroValue164
  t46 := Try.underlying165
  a46 := Try.isAgg165
  z46 := Try.sizeOf165
  v46 := Try.zeroValue165
  t50 := Try.underlying114
  a50 := Try.isAgg114
  z50 := Try.sizeOf114
  v50 := Try.zeroValue114
  t53 := Try.underlying171
  a53 := Try.isAgg171
  z53 := Try.sizeOf171
  v53 := Try.zeroValue171
  t55 := Try.underlying173
  a55 := Try.isAgg173
  z55 := Try.sizeOf173
  v55 := Try.zeroValue173
  t66 := Try.underlying192
  a66 := Try.isAgg192
  z66 := Try.sizeOf192
  v66 := Try.zeroValue192
  t70 := Try.underlying196
  a70 := Try.isAgg196
  z70 := Try.sizeOf196
  v70 := Try.zeroValue196
  t76 := Try.underlying208
  a76 := Try.isAgg208
  z76 := Try.sizeOf208
  v76 := Try.zeroValue208
  t77 := Try.underlying209
  a77 := Try.isAgg209
  z77 := Try.sizeOf209
  v77 := Try.zeroValue209 }
end Go.Proofs
end
section
/- slices.SortFunc over api.Item, whatever the order. -/
namespace Go.Sl
instance : Inhabited SItem := ⟨⟨0, 0⟩⟩
end Go.Sl
namespace Go.Proofs.Ytdcfojohgcmpcaa
open Go.RowKit Go.Sl Go.Sort
set_option maxHeartbeats 1000000
set_option maxRecDepth 100000
theorem ins0_item (p : Option Addr) (cap : Nat) (fv : Value) (w : World) : Calls Try.prog 131 #[.slice p 0 cap, .int .i64 0, .int .i64 0, fv] w fun e w' => e = .returned (.tuple #[]) ∧ w = w' := by
  go_enter Try.func131, Try.ntmps131
  go_wp2
  go_loop [8] (fun i => i = .int .i64 1) (fun _ => 0)
  case atStart => exact rfl
  case round =>
    obtain rfl := hrel
    go_wp2
    go_end0
    exact ⟨rfl, rfl⟩
theorem pdq0_item (p : Option Addr) (cap : Nat) (lim : Int) (fv : Value) (w : World) : Calls Try.prog 108 #[.slice p 0 cap, .int .i64 0, .int .i64 0, .int .i64 lim, fv] w fun e w' => e = .returned (.tuple #[]) ∧ w = w' := by
  go_enter Try.func108, Try.ntmps108
  go_wp2
  go_loop [10, 1, 2] (fun b x y => b = .bool true ∧ x = .int .i64 0 ∧ y = .int .i64 0) (fun _ _ _ => 0)
  case atStart => exact ⟨rfl, rfl, rfl⟩
  case round =>
    obtain ⟨rfl, rfl, rfl⟩ := hrel
    go_wp2_with fail
    refine (ins0_item p cap fv w).mono ?_
    rintro e w' ⟨rfl, rfl⟩
    go_wp2
    exact bodyPost_ret (v := .tuple #[]) (by simp [results, Try.results108, go_sem]) rfl ⟨rfl, rfl⟩
theorem sortNone_item (p : Option Addr) (cap : Nat) (fv : Value) (w : World) : Calls Try.prog 71 #[.slice p 0 cap, fv] w fun e w' => e = .returned (.tuple #[]) ∧ w = w' := by
  have hl : ∀ W, Calls Try.prog 109 #[.int .u64 0] W fun e w' => e = .returned (.int .i64 (Go.Lib.bitLen 0 : Nat)) ∧ w' = W := fun W =>
    Go.Proofs.Any.bits_Len (Go.Proofs.SlLaysF0.n15.bits (P := Try.prog) (ρ := Try.sortItem_ren) { Try.sortItem with }) 0 W (by omega) (by omega)
  go_enter Try.func71, Try.ntmps71
  go_wp2_with fail
  refine (hl _).mono ?_
  rintro e w' ⟨rfl, rfl⟩
  go_wp2_with fail
  refine (pdq0_item p cap _ fv _).mono ?_
  rintro e w' ⟨rfl, rfl⟩
  go_wp2
  go_end0
  exact ⟨rfl, rfl⟩
theorem sortFunc_item {κ : Type} [DecidableEq κ] (od : Go.Sl.Ord κ) (key : SItem → κ) (cf : SItem → SItem → Int) (hlt : ∀ x y, Go.Proofs.ltOf cf x y = od.lt (key x) (key y)) (g : FuncId) (eg : Enters Try.prog g)
    (hc : ∀ (x y : SItem) (W : World), Calls Try.prog g #[.agg #[.int .i64 x.kind, .int .i64 x.amt], .agg #[.int .i64 y.kind, .int .i64 y.amt]] W fun e W' => e = .returned (.int .i64 (cf x y)) ∧ ∃ q os', W' = grow (W.drewN q) os')
    (A : Option Addr) (ca : Nat) (rows : List SItem) (h : Hp) (w : World) (hs : h.sub w) (o : Ow kItem h A ca rows) (hn : rows.Pairwise fun x y => key x ≠ key y) (hl : rows.length ≤ 1000000) :
    Calls Try.prog 71 #[.slice A rows.length ca, .func (.func g) #[] #[]] w fun e w' => ∃ h', e = .returned (.tuple #[]) ∧ Ow kItem h' A ca (isort od key rows) ∧ Upd h h' w w' := by
  by_cases h0 : 0 < rows.length
  · obtain ⟨ad, hA⟩ := o.some_of_lt h0
    obtain ⟨b, off, cur, T, e, hbk, _, _⟩ := o.row ad hA (by have := o.le; omega)
    subst e
    subst hA
    have hH := o.holds hs h0
    have hblk : b < w.heap.size := hs.lt (by simp [hbk])
    have hcmp : Go.Proofs.CmpLays Try.prog g #[] SItem.cells 2 cf b off rows.toArray.size w := fun _ _ _ _ x y => hc x y _
    have key' := Go.Proofs.AnyQ.slices_SortFunc Try.sortItem 2 (fun w => by kernel_rfl) (fun w => by kernel_rfl) SItem.cells (fun _ => rfl) (fun x v hv => by simp [SItem.cells] at hv; rcases hv with rfl | rfl <;> rfl) cf (swo_ord od key _ hlt) g #[] b off ca rows.toArray w eg hcmp hH hblk (by simp; omega)
    refine key'.mono ?_
    rintro e w' ⟨he, d, n, os, hp, hso, hw⟩
    have hd : d.size = rows.length := by simpa using hp.1
    obtain ⟨h', o', u'⟩ := o.sorted hs h0 hd hw
    rw [isort_of hn hlt (by simpa using hp) (by simpa using hso)] at o'
    exact ⟨h', he, o', u'⟩
  · have hz0 : rows = [] := List.eq_nil_of_length_eq_zero (by omega)
    subst hz0
    exact (sortNone_item A ca _ w).mono fun _ _ ⟨he, hw⟩ => ⟨h, he, o, by subst hw; exact Upd.stay hs (Below.refl _ _)⟩
end Go.Proofs.Ytdcfojohgcmpcaa
end
section
/- The walks of cmp.Compare and cmp.Or over whole numbers. -/
namespace Go.Sl
def cmpI (x y : Int) : Int := if x < y then -1 else if y < x then 1 else 0
def orI (a b : Int) : Int := if a = 0 then b else a
end Go.Sl
namespace Go.Proofs.Ytdcfojohgcmpcaa
open Go.RowKit Go.Sl
set_option maxHeartbeats 1000000
theorem nan_calls (x : Int) (w : World) : Calls Try.prog 110 #[.int .i64 x] w fun e w' => e = .returned (.bool false) ∧ w = w' := by
  go_enter Try.func110, Try.ntmps110
  go_wp2
  go_ret
  exact ⟨by simp, rfl⟩
theorem compare_calls (x y : Int) (w : World) : Calls Try.prog 73 #[.int .i64 x, .int .i64 y] w fun e w' => e = .returned (.int .i64 (cmpI x y)) ∧ w = w' := by
  rcases Int.lt_trichotomy x y with h | h | h
  · have HC : Hid (cmpI x y = -1) := if_pos h
    have t1 : decide (x < y) = true := by simpa using h
    clear h
    go_enter Try.func73, Try.ntmps73
    go_wp2_with (go_at_call 110; refine (nan_calls _ _).mono ?_; rintro e w' ⟨rfl, rfl⟩)
    go_ret
    exact ⟨by rw [HC.out]; rfl, rfl⟩
  · have HC : Hid (cmpI x y = 0) := by unfold Hid cmpI; rw [if_neg (by omega), if_neg (by omega)]
    have t1 : decide (x < y) = false := by simp; omega
    have t2 : decide (y < x) = false := by simp; omega
    clear h
    go_enter Try.func73, Try.ntmps73
    go_wp2_with (go_at_call 110; refine (nan_calls _ _).mono ?_; rintro e w' ⟨rfl, rfl⟩)
    go_ret
    exact ⟨by rw [HC.out]; rfl, rfl⟩
  · have HC : Hid (cmpI x y = 1) := by unfold Hid cmpI; rw [if_neg (by omega), if_pos h]
    have t1 : decide (x < y) = false := by simp; omega
    have t2 : decide (y < x) = true := by simpa using h
    clear h
    go_enter Try.func73, Try.ntmps73
    go_wp2_with (go_at_call 110; refine (nan_calls _ _).mono ?_; rintro e w' ⟨rfl, rfl⟩)
    go_ret
    exact ⟨by rw [HC.out]; rfl, rfl⟩
theorem or_calls (q : Nat) (a b : Int) (w : World) (c0 : w.cell? ⟨q, 0, none⟩ = some (.int .i64 a)) (c1 : w.cell? ⟨q, 1, none⟩ = some (.int .i64 b)) :
    Calls Try.prog 81 #[.slice (some ⟨q, 0, none⟩) 2 2] w fun e w' => e = .returned (.int .i64 (orI a b)) ∧ w = w' := by
  go_enter Try.func81, Try.ntmps81
  go_wp2
  go_loop [8] (fun i => ∃ j : Nat, j ≤ 2 ∧ i = .int .i64 j ∧ Hid (1 ≤ j → a = 0) ∧ Hid (2 ≤ j → b = 0)) (fun i => 2 - (intOf i).toNat)
  case atStart => exact ⟨0, by omega, rfl, by unfold Hid; omega, by unfold Hid; omega⟩
  case round =>
    obtain ⟨j, hj, rfl, h1, h2⟩ := hrel
    have hj3 : j = 0 ∨ j = 1 ∨ j = 2 := by omega
    rcases hj3 with rfl | rfl | rfl
    · by_cases ha : a = 0
      · have t : (a != 0) = false := by simpa using ha
        have HA : Hid (a = 0) := ha
        clear ha
        go_wp2
        go_round
        case rel => exact ⟨1, by omega, by go_num, fun _ => HA.out, by unfold Hid; omega⟩
        case measure => simp [intOf]
      · have t : (a != 0) = true := by simpa using ha
        have HO : Hid (orI a b = a) := if_neg ha
        clear ha
        go_wp2
        go_ret
        exact ⟨by rw [HO.out]; rfl, rfl⟩
    · have HA := Lib.hid (h1.out (by omega))
      by_cases hb : b = 0
      · have t : (b != 0) = false := by simpa using hb
        have HB : Hid (b = 0) := hb
        clear hb
        go_wp2
        go_round
        case rel => exact ⟨2, by omega, by go_num, fun _ => HA.out, fun _ => HB.out⟩
        case measure => simp [intOf]
      · have t : (b != 0) = true := by simpa using hb
        have HO : Hid (orI a b = b) := by unfold Hid orI; rw [if_pos HA.out]
        clear hb
        go_wp2
        go_ret
        exact ⟨by rw [HO.out]; rfl, rfl⟩
    · have HO : Hid (orI a b = 0) := by unfold Hid orI; rw [if_pos (h1.out (by omega))]; exact h2.out (by omega)
      go_wp2
      go_ret
      exact ⟨by rw [HO.out]; rfl, rfl⟩
end Go.Proofs.Ytdcfojohgcmpcaa
end
section
/- The walk of fx.Add. -/
namespace Go.Sl
theorem idx_parts {α : Type} (p : α → Bool) (xs : List α) : (idx p xs = -1 ∧ ∀ y ∈ xs, p y = false) ∨ ∃ (j : Nat) (x : α), idx p xs = j ∧ xs[j]? = some x ∧ p x = true ∧ ∀ y ∈ xs.take j, p y = false := by
  by_cases h : xs.any p = true
  · right
    have hl := List.findIdx_lt_length.2 (List.any_eq_true.1 h)
    refine ⟨xs.findIdx p, xs[xs.findIdx p], by simp [idx, h], by simp [hl], List.findIdx_getElem, fun y hy => ?_⟩
    obtain ⟨i, hi, rfl⟩ := List.mem_take_iff_getElem.1 hy
    have := List.not_of_lt_findIdx (p := p) (xs := xs) (i := i) (by omega)
    simpa using this
  · left
    refine ⟨by simp [idx, h], fun y hy => ?_⟩
    cases hp : p y with
    | false => rfl
    | true => exact absurd (List.any_eq_true.2 ⟨y, hy, hp⟩) h
theorem isort_lenI {l : List SItem} (h : DistI l) : (isort ordInt ikey l).length = l.length := by
  induction l with
  | nil => rfl
  | cons x l ih =>
    obtain ⟨h1, h2⟩ := List.pairwise_cons.1 h
    show (put ordInt ikey x (isort ordInt ikey l)).length = _
    have hn : find ikey (ikey x) (isort ordInt ikey l) = none := by
      unfold find
      rw [List.find?_eq_none]
      intro y hy
      have := h1 y ((mem_isort h2).1 hy)
      simpa using this.symm
    rw [len_put x (isort_rising l), del_none hn, ih h2]; rfl
def cfItem (x y : SItem) : Int := cmpI x.kind y.kind
theorem lt_item (x y : SItem) : Go.Proofs.ltOf cfItem x y = ordInt.lt (ikey x) (ikey y) := by
  unfold Go.Proofs.ltOf cfItem cmpI
  simp only [ordInt, ikey]
  rw [decide_eq_decide]
  split <;> (try split) <;> omega
end Go.Sl
namespace Go.Proofs.Ytdcfojohgcmpcaa
open Go.RowKit Go.Sl Go.Sort
set_option maxHeartbeats 2000000
set_option maxRecDepth 100000
theorem add1_calls (x y : SItem) (q : Nat) (W : World) (hq : W.cell? ⟨q, 0, none⟩ = some (.int .i64 y.kind)) :
    Calls Try.prog 70 #[.agg #[.int .i64 x.kind, .int .i64 x.amt], .pointer (some ⟨q, 0, none⟩)] W fun e W' => e = .returned (.bool (x.kind == y.kind)) ∧ Below W.heap.size W W' := by
  have hlt := World.block_lt_of_cell? W _ hq
  go_enter Try.func70, Try.ntmps70
  go_wp2
  go_ret
  exact ⟨rfl, (by repeat (first | exact Below.refl _ _ | apply Below.drew | refine Below.alloc ?_ (by simp) _))⟩
theorem add2_calls (x y : SItem) (W : World) : Calls Try.prog 72 #[.agg #[.int .i64 x.kind, .int .i64 x.amt], .agg #[.int .i64 y.kind, .int .i64 y.amt]] W fun e W' => e = .returned (.int .i64 (cfItem x y)) ∧ ∃ q os', W' = grow (W.drewN q) os' := by
  have HC : Hid (cfItem x y = cmpI x.kind y.kind) := rfl
  generalize cfItem x y = r at *
  have C1 := fun W : World => compare_calls x.kind y.kind W
  generalize cmpI x.kind y.kind = a at *
  go_enter Try.func72, Try.ntmps72
  go_wp2_with fail
  refine (C1 _).mono ?_
  rintro e w' ⟨rfl, rfl⟩
  go_wp2
  go_ret
  exact ⟨by rw [HC.out]; rfl, 0, _, by rw [alloc_eq_grow, alloc_eq_grow]; simp only [grow_grow]; rfl⟩
theorem fxAdd_calls (A B : Option Addr) (ca cb : Nat) (xs ys : List SItem) (h k : Hp) (w : World) (hs : h.sub w) (ks : k.sub w) (sx : Sl kItem h A ca xs) (sy : Sl kItem k B cb ys)
    (hx : xs.length ≤ 100) (hy : ys.length ≤ 100) (bx : BdL 1000000000 xs) (by' : BdL 1000000000 ys) :
    Calls Try.prog 19 #[.slice A xs.length ca, .slice B ys.length cb] w fun e w' => ∃ C cap h', e = .returned (.slice C (fxAdd (xs ++ ys)).length cap) ∧ Ow kItem h' C cap (fxAdd (xs ++ ys)) ∧ Upd Hp.none h' w w' := by
  have CC := fun (q : Nat) (W : World) (b : Below w.heap.size w W) c0 c1 => concat_item q A B ca cb xs ys h k W (hs.of_below b) (ks.of_below b) sx sy c0 c1 (by omega) (by omega)
  have hz : (xs ++ ys).length ≤ 200 := by rw [List.length_append]; omega
  have bz := Lib.hid (show BdL 1000000000 (xs ++ ys) from fun x hx => by
    rcases List.mem_append.1 hx with h | h
    · exact bx x h
    · exact by' x h)
  obtain ⟨zs, hzs⟩ : ∃ zs, xs ++ ys = zs := ⟨_, rfl⟩
  rw [hzs] at CC hz bz
  rw [hzs]
  clear hzs bx by' hx hy
  have E1 := (Env.start w).alloc (.cells #[.slice A xs.length ca, .slice B ys.length cb] 37)
  simp at E1
  go_enter Try.func19, Try.ntmps19
  go_wp2_with fail
  refine (CC w.heap.size _ E1.low (E1.cell 0 rfl 0 rfl) (E1.cell 0 rfl 1 rfl)).mono ?_
  rintro e w2 ⟨C2, n2, h2, rfl, o2, u2⟩
  have E2 := (E1.new u2).drop 0
  simp at E2
  clear CC E1 u2
  have m1 := o2.small
  have E3 := E2.new (Upd.of_below (Below.refl w2.heap.size w2))
  simp at E3
  go_wp2
  go_loopw [5, 14] (fun v i wr => ∃ (j cap n : Nat) (C : Option Addr) (h' : Hp) (os : List SItem), j ≤ zs.length ∧ i = .int .i64 j ∧ v = .slice C n cap ∧ Hid (os.length = n) ∧ n ≤ j ∧ Hid (os = addAll (zs.take j)) ∧ Ow kItem h' C cap os ∧ Env w wr [h2, h']) (fun _ i _ => zs.length - (intOf i).toNat)
  case atStart => exact ⟨0, 0, 0, none, Hp.none, [], by omega, rfl, rfl, rfl, by omega, rfl, Ow.none _ _, E3⟩
  case round =>
    clear E2 E3
    obtain ⟨j, cap, n, C, h', os, hj, rfl, rfl, hm, hn, ho, o, E⟩ := hrel
    by_cases hlt : j < zs.length
    · obtain ⟨x, hx⟩ := some_of_lt hlt
      obtain ⟨b0, o0, rfl, c1, c2⟩ := o2.sl.item (E.sub 0 rfl) hx
      have i1 : (0 : Int) ≤ (j : Int) := by omega
      have i2 : (j : Int) < (zs.length : Int) := by omega
      obtain ⟨p1, p2⟩ := bz.out x (List.mem_of_getElem? hx.out)
      have HA : Hid (addAll (zs.take (j + 1)) = addOne os x) := by unfold Hid; rw [take_next hx, addAll_snoc, ← ho.out]
      have hbd : BdL (200 * 1000000000) os := fun y hy => by
        have h1 := SameK.bd (b := 1000000000) (by omega) (addAll_mem (zs.take j)) (fun u hu => bz.out u (List.mem_of_mem_take hu)) y (by rw [← ho.out]; exact hy)
        rw [List.length_take] at h1
        have : ((min j zs.length : Nat) : Int) ≤ 200 := by omega
        omega
      have HB := Lib.hid hbd
      clear hbd
      have EA := E.alloc (.cells #[.int .i64 x.kind, .int .i64 x.amt] 36)
      simp at EA
      obtain ⟨WA, hWA⟩ : ∃ WA, WA = wr.alloc (.cells #[.int .i64 x.kind, .int .i64 x.amt] 36) := ⟨_, rfl⟩
      go_upto_region 5 with fail
      rw [← hWA] at EA
      rw [← hWA]
      clear hWA c1 c2
      generalize wr.heap.size = q at *
      have gq := EA.cell 2 rfl 0 rfl
      have IC := indexFunc_item 70 #[.pointer (some ⟨q, 0, none⟩)] (enters_of Try.func70 (by kernel_rfl) rfl) (fun y => y.kind == x.kind) C cap os h' WA (EA.sub 1 rfl) o.sl (fun y V hV => add1_calls y x q V ((hV.cell (World.block_lt_of_cell? WA _ gq)).trans gq))
      rw [hm.out] at IC
      clear E gq
      rcases idx_parts (fun y : SItem => y.kind == x.kind) os with ⟨hi, hno⟩ | ⟨m, y, hi, hy0, hpy, hno⟩
      · rw [hi] at IC
        have HO1 : Hid (addOne os x = os ++ [⟨x.kind, x.amt⟩]) := addOne_miss fun u hu => by simpa using hno u hu
        clear hi hno
        go_wp2_with fail
        refine IC.mono ?_
        rintro e w3 ⟨rfl, B3⟩
        have E3 := EA.below B3
        clear EA IC B3
        have g0 := E3.cell 2 rfl 0 rfl
        have g1 := E3.cell 2 rfl 1 rfl
        have EB := fun o' => E3.alloc' o'
        go_wp2_with (at_builtin; refine wpList_eapp 1 ⟨x.kind, 0⟩ Try.underlying37 info_item (EB _) (by rfl) o n hm.out (by rfl) (by rfl) rfl 1 (by rfl) (by rfl) (heap_new_at (by simp)) (by rfl) (by omega) (by omega) ?_; intro C4 cap4 VC h4 oC EC)
        simp at EC
        clear E3 EB g0 g1 o
        obtain ⟨zz, hzz⟩ : ∃ zz : Int, zz = 0 := ⟨_, rfl⟩
        rw [← hzz] at oC
        obtain ⟨y, hyd⟩ : ∃ y : SItem, y = ⟨x.kind, zz⟩ := ⟨_, rfl⟩
        rw [← hyd] at oC
        obtain ⟨m, hmm⟩ : ∃ m : Nat, m = n := ⟨_, rfl⟩
        have hy : Hid ((os ++ [y])[m]? = some y) := by unfold Hid; rw [hmm, ← hm.out]; simp
        have hlC : Hid ((os ++ [y]).length = n + 1) := by unfold Hid; rw [List.length_append, hm.out]; rfl
        obtain ⟨nC, hnC⟩ : ∃ nC : Nat, nC = n + 1 := ⟨_, rfl⟩
        rw [← hnC] at hlC
        have HS : Hid ((os ++ [y]).set m ⟨y.kind, y.amt + x.amt⟩ = addAll (zs.take (j + 1))) := by
          unfold Hid; rw [HA.out, HO1.out, hmm, ← hm.out, hyd, hzz]; simp
        have HLN : Hid ((addAll (zs.take (j + 1))).length = nC) := by unfold Hid; rw [← HS.out, List.length_set]; exact hlC.out
        have b3 : -1000000000 ≤ y.amt ∧ y.amt ≤ 1000000000 := by rw [hyd]; simp only; omega
        obtain ⟨b3, b4⟩ := b3
        clear HA HO1 HB hyd
        rw [← hnC]
        try rw [← hmm]
        have hnCj : nC ≤ j + 1 := by omega
        clear hzz hnC hn hmm
        obtain ⟨b1, o1, rfl, c1, c2⟩ := oC.sl.item (EC.sub 1 rfl) hy
        have hf := oC.cell_free (EC.sub 1 rfl) (lt_of_some hy.out)
        have g0 := EC.cell 2 rfl 0 rfl
        have g1 := EC.cell 2 rfl 1 rfl
        have hlt2 : m < nC := hlC.out ▸ (List.getElem?_eq_some_iff.1 hy.out).1
        have k1 : (0 : Int) ≤ (m : Int) := by omega
        have k2 : (m : Int) < (nC : Int) := by omega
        obtain ⟨hV, oV, uV⟩ := Ow.set (x' := ⟨y.kind, y.amt + x.amt⟩) (v := .int .i64 (y.amt + x.amt)) (j := 1) oC (EC.sub 1 rfl) hy.out (by decide) rfl
        have E6 := (EC.upd 1 rfl uV).drew
        simp at E6
        have E7 := E6.drop 2
        simp at E7
        rw [HS.out] at oV
        clear uV oC E6
        go_upto_region 9 with fail
        refine wp_region_still_tail 12 (by kernel_rfl) (by kernel_rfl) ?_
        simp only [List.take_succ_cons, List.take_zero, List.drop_succ_cons, List.drop_zero]
        repeat still_step
        refine wpStill_nil ?_
        change wpList _ _ _ _ _ VC.drew
        go_wp2
        go_roundw
        case rel => exact ⟨j + 1, _, nC, _, hV, addAll (zs.take (j + 1)), by omega, by go_num, rfl, HLN, by omega, rfl, oV, E7⟩
        case measure => simp [intOf]; omega
      · rw [hi] at IC
        have hy : Hid (os[m]? = some y) := hy0
        have hk : y.kind = x.kind := by simpa using hpy
        have HS : Hid (os.set m ⟨y.kind, y.amt + x.amt⟩ = addAll (zs.take (j + 1))) := by
          unfold Hid; rw [HA.out]; exact (addOne_hit hy0 hk fun u hu => by simpa using hno u hu).symm
        obtain ⟨b3, b4⟩ := HB.out y (List.mem_of_getElem? hy0)
        clear hi hno hy0 hpy hk HA HB
        go_wp2_with fail
        refine IC.mono ?_
        rintro e VC ⟨rfl, B3⟩
        have EC := EA.below B3
        clear EA IC B3
        have hlC : Hid (os.length = n) := hm
        have HLN : Hid ((addAll (zs.take (j + 1))).length = n) := by unfold Hid; rw [← HS.out, List.length_set]; exact hm.out
        obtain ⟨nC, hnC⟩ : ∃ nC : Nat, n = nC := ⟨_, rfl⟩
        rw [hnC] at hlC HLN hn ⊢
        have hnCj : nC ≤ j + 1 := by omega
        have oC := o
        clear hnC hn hm o
        obtain ⟨b1, o1, rfl, c1, c2⟩ := oC.sl.item (EC.sub 1 rfl) hy
        have hf := oC.cell_free (EC.sub 1 rfl) (lt_of_some hy.out)
        have g0 := EC.cell 2 rfl 0 rfl
        have g1 := EC.cell 2 rfl 1 rfl
        have hlt2 : m < nC := hlC.out ▸ (List.getElem?_eq_some_iff.1 hy.out).1
        have k1 : (0 : Int) ≤ (m : Int) := by omega
        have k2 : (m : Int) < (nC : Int) := by omega
        obtain ⟨hV, oV, uV⟩ := Ow.set (x' := ⟨y.kind, y.amt + x.amt⟩) (v := .int .i64 (y.amt + x.amt)) (j := 1) oC (EC.sub 1 rfl) hy.out (by decide) rfl
        have E6 := (EC.upd 1 rfl uV).drew
        simp at E6
        have E7 := E6.drop 2
        simp at E7
        rw [HS.out] at oV
        clear uV oC E6
        go_upto_region 9 with fail
        refine wp_region_still_tail 12 (by kernel_rfl) (by kernel_rfl) ?_
        simp only [List.take_succ_cons, List.take_zero, List.drop_succ_cons, List.drop_zero]
        repeat still_step
        refine wpStill_nil ?_
        change wpList _ _ _ _ _ VC.drew
        go_wp2
        go_roundw
        case rel => exact ⟨j + 1, _, nC, _, hV, addAll (zs.take (j + 1)), by omega, by go_num, rfl, HLN, by omega, rfl, oV, E7⟩
        case measure => simp [intOf]; omega
    · obtain rfl : j = zs.length := by omega
      rw [List.take_length] at ho
      have HD : Hid (addAll zs = os) := ho.out.symm
      have hdist : DistI os := by rw [ho.out]; exact addAll_dist zs
      have HF : Hid (fxAdd zs = isort ordInt ikey os) := by unfold Hid fxAdd; rw [HD.out]
      have HLF : Hid ((isort ordInt ikey os).length = n) := by
        unfold Hid; rw [isort_lenI hdist]; exact hm.out
      have SC := fun W hW => sortFunc_item ordInt ikey cfItem lt_item 72 (enters_of Try.func72 (by kernel_rfl) rfl) add2_calls C cap os h' W (E.sub 1 rfl |>.of_below hW) o hdist (by have := hm.out; omega)
      rw [hm.out] at SC
      clear hdist HD ho
      go_wp2_with fail
      refine (SC _ (Below.refl _ _)).mono ?_
      rintro e w5 ⟨h5, rfl, o5, u5⟩
      have E5 := E.upd 1 rfl u5
      simp at E5
      have HO : Hid (Ow kItem h5 C cap (fxAdd zs)) := by rw [HF.out]; exact o5
      have HN : Hid (n = (fxAdd zs).length) := by unfold Hid; rw [HF.out, HLF.out]
      have HU := Lib.hid (E5.made (h := h5) (by simp))
      clear SC o5 u5 HF HLF E o
      go_wp2
      go_ret
      exact ⟨C, cap, h5, by rw [HN.out]; rfl, HO.out, HU.out⟩
end Go.Proofs.Ytdcfojohgcmpcaa
end
section
/- append of a whole slice of flat elements in a drawn region, at a body's own memory. No program is named here. -/
namespace Go.Sl
open Go Go.RowKit
section
variable {P : Program} {α : Type} {k : Kd α} {h hx : Hp} {A B : Option Addr} {cap : Nat} {xs ys : List α} {w0 w : World} {l : List Hp}
theorem step_eappF {ops : Array Oper} {op : Oper} {a : Act} {K : Act → World → Prop} {Q : Exit → Act → World → Prop} {F : Prop} {sx xx : Operand} {t e : TypeId} {z : Value} {bytes cb : Nat}
    (i : Nat) (ht : P.underlying t = some (.slice e)) (hinfo : Info P e z k.size bytes) (E : Env w0 w l) (hi : l[i]? = some h) (o : Ow k h A cap xs) (sy : Sl k hx B cb ys) (sx' : hx.sub w) (n m : Nat) (hn : xs.length = n) (hm' : ys.length = m)
    (f : k.Flat) (hzs : z.cells.size = k.size) (hgd : op.guard = none)
    (ho : op.op = .call { callee := .builtin .append, args := #[sx, xx], argTypes := #[t, t] }) (c : Nat) (hsv : a.eval sx = .slice A n cap) (hxv : a.eval xx = .slice B m c)
    (hm : n + m ≤ 1000000000) (hby : bytes ≤ 1000)
    (H : ∀ A' cap' w' h', Ow k h' A' cap' (xs ++ ys) → Env w0 w' (l.set i h') → K (a.put op.dst (.slice A' (n + m) cap')) w') :
    if Region.wanted op (yielded ops a.tmps) = true then Oper.wp P op a w K Q else F := by
  unfold Info at hinfo
  cases hP : P.info? e with
  | none => rw [hP] at hinfo; cases hinfo
  | some inf =>
    rw [hP] at hinfo
    simp only [Option.map_some, Option.some.injEq, Prod.mk.injEq] at hinfo
    refine step_append (k := k) (h := h) (hx := Hp.none) (A := A) (cap := cap) (B := B) (xs := xs) (ys := ys) hgd sx xx t ho e inf z ht hP hinfo.1 hinfo.2.1 hzs bytes hinfo.2.2 n m c hn hm' hsv hxv o (E.sub i hi) ((sy.src sx').flat f _) (Hp.none_sub _) (Hp.apart_none _) (by unfold maxLen; omega) ?_ fun A' cap' w' h' h1 h2 => H A' cap' w' h' h1 (E.upd i hi h2.flat)
    have : (n + m) * bytes ≤ 1000000000 * 1000 := Nat.mul_le_mul hm hby
    omega
end
end Go.Sl
end
section
/- The walk of the document's AddItems. -/
namespace Go.Proofs.Ytdcfojohgcmpcaa
open Go.RowKit Go.Sl
set_option maxHeartbeats 4000000
set_option maxRecDepth 100000
theorem _root_.Go.Sl.Ow.cut2 {α : Type} {k : Kd α} {h : Hp} {A : Option Addr} {cap : Nat} {xs : List α} (o : Ow k h A cap xs) {n : Nat} (hn : n ≤ xs.length) : Ow k h A n (xs.take n) := by
  have hle := o.le
  have hmx := o.max
  refine ⟨by rw [List.length_take]; omega, by omega, fun e => by have := o.nil e; omega, fun ad e hc => ?_⟩
  obtain ⟨b, off, cur, E, e1, e2, e3, e4⟩ := o.row ad e (by omega)
  refine ⟨b, off, cur, E, e1, e2, ?_, fun i x hx => e4 i x ?_⟩
  · have : n * k.size ≤ cap * k.size := Nat.mul_le_mul_right _ (by omega)
    omega
  · rw [List.getElem?_take] at hx
    split at hx
    · exact hx
    · cases hx
theorem addItems_calls (A B : Option Addr) (ca cb : Nat) (xs ys : List SItem) (h k : Hp) (w : World) (hs : h.sub w) (ks : k.sub w) (sx : Sl kItem h A ca xs) (sy : Sl kItem k B cb ys)
    (hx : xs.length ≤ 100) (hy : ys.length ≤ 100) (bx : BdL 1000000000 xs) (by' : BdL 1000000000 ys) :
    Calls Try.prog 25 #[.slice A xs.length ca, .slice B ys.length cb] w fun e w' => ∃ C cap h', e = .returned (.slice C (refAdd (xs ++ ys)).length cap) ∧ Ow kItem h' C cap (refAdd (xs ++ ys)) ∧ Upd Hp.none h' w w' := by
  have hz : (xs ++ ys).length ≤ 200 := by rw [List.length_append]; omega
  have bz := Lib.hid (show BdL 1000000000 (xs ++ ys) from fun x hx => by
    rcases List.mem_append.1 hx with h | h
    · exact bx x h
    · exact by' x h)
  obtain ⟨zs, hzs⟩ : ∃ zs, xs ++ ys = zs := ⟨_, rfl⟩
  have HZ := Lib.hid hzs
  have HZL : Hid (xs.length + ys.length = zs.length) := by unfold Hid; rw [← hzs, List.length_append]
  rw [hzs] at hz bz
  rw [hzs]
  clear hzs bx by'
  have E0 := Env.start w
  go_enter Try.func25, Try.ntmps25
  go_wp2_with (first
    | (at_builtin; refine wpList_clone (sx := .const (.slice none 0 0)) (xx := .tmp 9) (B := none) Try.underlying37 info_item (by rfl) (by rfl) rfl xs.length ca (by rfl) (by rfl) rfl kItem_flat sx hs (by omega) (by omega) ?_; intro C1 n1 w1 h1 o1 u1; have E1 := E0.new u1; simp at E1)
    | (at_builtin; refine wpList_eappF (sx := .tmp 10) (xx := .tmp 11) 0 Try.underlying37 info_item E1 (by rfl) o1 sy (ks.of_below E1.low) xs.length ys.length rfl rfl kItem_flat (by rfl) (by rfl) rfl cb (by rfl) (by rfl) (by omega) (by omega) ?_; intro C2 n2 w2 h2 o2 E2; simp at E2)
    | fail)
  rw [HZ.out] at o2
  obtain ⟨nz, hnz⟩ : ∃ nz, xs.length + ys.length = nz := ⟨_, rfl⟩
  have hnz2 : nz = zs.length := by rw [← hnz]; exact HZL.out
  try rw [← Int.natCast_add]
  try rw [hnz]
  subst hnz2
  clear HZ HZL hnz o1 E1
  have m1 := o2.small
  have E3 := E2.new (Upd.of_below (Below.refl w2.heap.size w2))
  simp at E3
  go_loopw [5, 14] (fun v i wr => ∃ (j cap n : Nat) (C : Option Addr) (h' : Hp) (os : List SItem), j ≤ zs.length ∧ i = .int .i64 j ∧ v = .slice C n cap ∧ Hid (os.length = n) ∧ n ≤ j ∧ Hid (os = refAdd (zs.take j)) ∧ Hid (n = 0 → C = none ∧ cap = 0) ∧ Ow kItem h' C cap os ∧ Env w wr [h2, h']) (fun _ i _ => zs.length - (intOf i).toNat)
  case atStart => exact ⟨0, 0, 0, none, Hp.none, [], by omega, rfl, rfl, rfl, by omega, rfl, fun _ => ⟨rfl, rfl⟩, Ow.none _ _, E3⟩
  case round =>
    clear E2 E3
    obtain ⟨j, cap, n, C, h', os, hj, rfl, rfl, hm, hn, ho, hnc, o, E⟩ := hrel
    by_cases hlt : j < zs.length
    · obtain ⟨x, hx⟩ := some_of_lt hlt
      obtain ⟨b0, o0, rfl, c1, c2⟩ := o2.sl.item (E.sub 0 rfl) hx
      have i1 : (0 : Int) ≤ (j : Int) := by omega
      have i2 : (j : Int) < (zs.length : Int) := by omega
      obtain ⟨p1, p2⟩ := bz.out x (List.mem_of_getElem? hx.out)
      have HA : Hid (refAdd (zs.take (j + 1)) = insR os x) := by unfold Hid; rw [take_next hx, refAdd_snoc, ← ho.out]
      have hbd : BdL (200 * 1000000000) os := fun y hy => by
        have h1 := SameK.bd (b := 1000000000) (by omega) (refAdd_mem (zs.take j)) (fun u hu => bz.out u (List.mem_of_mem_take hu)) y (by rw [← ho.out]; exact hy)
        rw [List.length_take] at h1
        have : ((min j zs.length : Nat) : Int) ≤ 200 := by omega
        omega
      have HB := Lib.hid hbd
      clear hbd ho
      have EA := E.alloc (.cells #[.int .i64 x.kind, .int .i64 x.amt] 36)
      simp at EA
      obtain ⟨WA, hWA⟩ : ∃ WA, WA = wr.alloc (.cells #[.int .i64 x.kind, .int .i64 x.amt] 36) := ⟨_, rfl⟩
      go_upto_region 5 with fail
      rw [← hWA] at EA
      rw [← hWA]
      clear hWA c1 c2 E
      generalize wr.heap.size = q at *
      have hle := o.le
      have hmx := o.max
      unfold maxLen at hmx
      go_wp2_with fail
      go_loopw [8] (fun i wv => ∃ m : Nat, m ≤ n ∧ i = .int .i64 m ∧ Hid (∀ y ∈ os.take m, y.kind < x.kind) ∧ Env w wv [h2, h', Hp.box q [.int .i64 x.kind, .int .i64 x.amt] 36]) (fun i _ => n - (intOf i).toNat)
      case atStart => exact ⟨0, by omega, rfl, by unfold Hid; simp, EA⟩
      case round =>
        obtain ⟨m, hmn, rfl, hlo, EX⟩ := hrel
        clear EA
        have g0 := EX.cell 2 rfl 0 rfl
        have g1 := EX.cell 2 rfl 1 rfl
        by_cases hmlt : m < n
        · obtain ⟨y, hy⟩ := some_of_lt (show m < os.length by rw [hm.out]; exact hmlt)
          obtain ⟨b1, o1, rfl, d1, d2⟩ := o.sl.item (EX.sub 1 rfl) hy
          have k1 : (0 : Int) ≤ (m : Int) := by omega
          have k2 : (m : Int) < (n : Int) := by omega
          by_cases hk : y.kind < x.kind
          · have t1 : decide (y.kind < x.kind) = true := by simpa using hk
            have HN : Hid (∀ u ∈ os.take (m + 1), u.kind < x.kind) := by
              intro u hu
              rw [take_next hy] at hu
              rcases List.mem_append.1 hu with hu | hu
              · exact hlo.out u hu
              · simp at hu; subst hu; exact hk
            clear hk
            go_wp2
            go_quiet (fail)
            have EY := EX.drewN nq
            clear EX g0 g1 d1 d2
            go_wp2
            go_roundw
            case rel => exact ⟨m + 1, by omega, by go_num, HN, EY⟩
            case measure => simp [intOf]; omega
          · have t1 : decide (y.kind < x.kind) = false := by simpa using hk
            have HP : Hid (posR os x.kind = m) := posR_at hlo.out (fun u hu => by rw [hy.out] at hu; cases hu; exact hk) (by rw [hm.out]; omega)
            go_wp2
            go_quiet (fail)
            have EY := EX.drewN nq
            obtain ⟨V1, hV1⟩ : ∃ V1, V1 = wr.drewN nq := ⟨_, rfl⟩
            rw [← hV1] at EY
            rw [← hV1]
            clear EX g0 g1 d1 d2 hV1
            have g0 := EY.cell 2 rfl 0 rfl
            have g1 := EY.cell 2 rfl 1 rfl
            obtain ⟨b1', o1', e', d1, d2⟩ := o.sl.item (EY.sub 1 rfl) hy
            cases e'
            by_cases hk2 : y.kind = x.kind
            · have t2 : (y.kind == x.kind) = true := by simpa using hk2
              have HS : Hid (os.set m ⟨y.kind, y.amt + x.amt⟩ = refAdd (zs.take (j + 1))) := by
                unfold Hid
                have e := HP.out
                have := insR_hit (x := x) (l := os) (y := y) (by rw [e]; exact hy.out) hk2
                rw [e] at this
                rw [HA.out, this]
              obtain ⟨b3, b4⟩ := HB.out y (List.mem_of_getElem? hy.out)
              have HLN : Hid ((refAdd (zs.take (j + 1))).length = n) := by unfold Hid; rw [← HS.out, List.length_set]; exact hm.out
              clear hk hk2 HA HB HP
              go_wp2
              go_quiet (fail)
              have EZ := EY.drewN nq
              obtain ⟨V2, hV2⟩ : ∃ V2, V2 = V1.drewN nq := ⟨_, rfl⟩
              rw [← hV2] at EZ
              rw [← hV2]
              clear EY g0 g1 d1 d2 hV2
              have g0 := EZ.cell 2 rfl 0 rfl
              have g1 := EZ.cell 2 rfl 1 rfl
              obtain ⟨b1', o1', e', d1, d2⟩ := o.sl.item (EZ.sub 1 rfl) hy
              cases e'
              have hf := o.cell_free (EZ.sub 1 rfl) (by have := hm.out; omega)
              obtain ⟨hV, oV, uV⟩ := Ow.set (x' := ⟨y.kind, y.amt + x.amt⟩) (v := .int .i64 (y.amt + x.amt)) (j := 1) o (EZ.sub 1 rfl) hy.out (by decide) rfl
              have E6 := (EZ.upd 1 rfl uV).drew
              simp at E6
              have E7 := E6.drop 2
              simp at E7
              rw [HS.out] at oV
              clear uV E6 o
              go_upto_region 9 with fail
              refine wp_region_still_tail 10 (by kernel_rfl) (by kernel_rfl) ?_
              simp only [List.take_succ_cons, List.take_zero, List.drop_succ_cons, List.drop_zero]
              repeat still_step
              refine wpStill_nil ?_
              change wpList _ _ _ _ _ V2.drew
              go_wp2
              go_roundw
              case rel => exact ⟨j + 1, _, n, _, hV, refAdd (zs.take (j + 1)), by omega, by go_num, rfl, HLN, by omega, rfl, fun e => absurd e (by omega), oV, E7⟩
              case measure => simp [intOf]; omega
            · have t2 : (y.kind == x.kind) = false := by simpa using hk2
              have hne : ∀ u, os[m]? = some u → u.kind ≠ x.kind := fun u hu => by rw [hy.out] at hu; cases hu; exact hk2
              have HI : Hid (insR os x = os.take m ++ (x :: os.drop m)) := by
                unfold Hid
                have e := HP.out
                have := insR_miss (x := x) (l := os) (fun y hy => hne y (by rw [e] at hy; exact hy))
                rw [e] at this; exact this
              have HK : Hid ((os.take m).length = m) := by unfold Hid; rw [List.length_take]; have := hm.out; omega
              have HD : Hid ((os.drop m).length = n - m) := by unfold Hid; rw [List.length_drop, hm.out]
              have HI2 : Hid (refAdd (zs.take (j + 1)) = os.take m ++ (x :: os.drop m)) := by unfold Hid; rw [HA.out, HI.out]
              have HLN : Hid ((refAdd (zs.take (j + 1))).length = m + (1 + (n - m))) := by
                unfold Hid; rw [HA.out, HI.out, List.length_append, HK.out, List.length_cons, HD.out]; omega
              clear hk hk2 hne HP
              go_wp2
              go_quiet (fail)
              have EZ := EY.drewN nq
              obtain ⟨V2, hV2⟩ : ∃ V2, V2 = V1.drewN nq := ⟨_, rfl⟩
              rw [← hV2] at EZ
              rw [← hV2]
              clear EY g0 g1 d1 d2 hV2
              have g0 := EZ.cell 2 rfl 0 rfl
              have g1 := EZ.cell 2 rfl 1 rfl
              have k1 : (0 : Int) ≤ (m : Int) := by omega
              have k2 : (m : Int) ≤ (n : Int) := by omega
              have k3 : (n : Int) ≤ (cap : Int) := by have := hm.out; omega
              have k4 : (m : Int) ≤ (cap : Int) := by omega
              have oc := Ow.cut2 o (show m ≤ os.length by have := hm.out; omega)
              have sd := o.sl.behind m
              have hn2 : 1 + (n - m) ≤ 1000000 := by omega
              clear hlo HA HI HB o
              have OL : ∀ b : Nat, Ow kItem (Hp.one b (.cells #[.int .i64 x.kind, .int .i64 x.amt] 36 (0, 0))) (some ⟨b, 0, none⟩) 1 [x] := fun b => Ow.lit (xs := [x]) (Hp.one_self _ _) (by simp [maxLen])
              go_wp2
              go_region_held3 (fun V => V.cell? ⟨q, 0, none⟩ = some (.int .i64 x.kind) ∧ V.cell? ⟨q, 1, none⟩ = some (.int .i64 x.amt))
                (first | go_keep | (go_split_ands; exact ⟨E5.cell 2 rfl 0 rfl, E5.cell 2 rfl 1 rfl⟩) | (go_split_ands; exact ⟨E6.cell 2 rfl 0 rfl, E6.cell 2 rfl 1 rfl⟩))
                (first
                  | (refine step_eappF (sx := .tmp 61) (xx := .tmp 67) (xs := os.take m) (ys := x :: os.drop m) 1 Try.underlying37 info_item E5 (by rfl) oc o5.sl (E5.sub 3 rfl) m (1 + (n - m)) HK.out (by rw [List.length_cons, HD.out]; omega) kItem_flat (by rfl) (by rfl) rfl n5 (by rfl) (by rfl) (by omega) (by omega) ?_; intro C6 n6 w6 h6 o6 E6; simp at E6)
                  | (refine step_eappF (sx := .tmp 63) (xx := .tmp 66) (xs := [x]) (ys := os.drop m) 3 Try.underlying37 info_item (EZ.drew.alloc (.cells #[.int .i64 x.kind, .int .i64 x.amt] 36)) (by rfl) (OL _) sd ((EZ.drew.alloc (.cells #[.int .i64 x.kind, .int .i64 x.amt] 36)).sub 1 rfl) 1 (n - m) rfl HD.out kItem_flat (by rfl) (by rfl) rfl (cap - m) (by rfl) (by rfl) (by omega) (by omega) ?_; intro C5 n5 w5 h5 o5 E5; simp at E5)
                  | fail)
              have E7 := (E6.drop 3).drop 2
              simp at E7
              rw [← HI2.out] at o6
              go_wp2
              go_roundw
              case rel => exact ⟨j + 1, _, m + (1 + (n - m)), _, h6, refAdd (zs.take (j + 1)), by omega, by go_num, rfl, HLN, by omega, rfl, fun e => absurd e (by omega), o6, E7⟩
              case measure => simp [intOf]; omega
        · obtain rfl : m = n := by omega
          have hne : ∀ u, os[m]? = some u → u.kind ≠ x.kind := fun u hu => by rw [List.getElem?_eq_none (by rw [hm.out]; omega)] at hu; cases hu
          have HP : Hid (posR os x.kind = m) := posR_at hlo.out (fun u hu => by rw [List.getElem?_eq_none (by rw [hm.out]; omega)] at hu; cases hu) (by rw [hm.out]; omega)
          have HI : Hid (insR os x = os ++ [x]) := by
            unfold Hid
            have e := HP.out
            have := insR_miss (x := x) (l := os) (fun y hy => hne y (by rw [e] at hy; exact hy))
            rw [e, List.take_of_length_le (by rw [hm.out]; omega), List.drop_eq_nil_of_le (by rw [hm.out]; omega)] at this; exact this
          have HI2 : Hid (refAdd (zs.take (j + 1)) = os ++ [x]) := by unfold Hid; rw [HA.out, HI.out]
          have HLN : Hid ((refAdd (zs.take (j + 1))).length = m + 1) := by
            unfold Hid; rw [HI2.out, List.length_append, hm.out]; rfl
          clear hne HP
          go_wp2
          go_quiet (fail)
          have EY := EX.drewN nq
          obtain ⟨V1, hV1⟩ : ∃ V1, V1 = wr.drewN nq := ⟨_, rfl⟩
          rw [← hV1] at EY
          rw [← hV1]
          clear EX g0 g1 hV1
          have g0 := EY.cell 2 rfl 0 rfl
          have g1 := EY.cell 2 rfl 1 rfl
          go_wp2
          go_quiet (fail)
          have EZ := EY.drewN nq
          obtain ⟨V2, hV2⟩ : ∃ V2, V2 = V1.drewN nq := ⟨_, rfl⟩
          rw [← hV2] at EZ
          rw [← hV2]
          clear EY g0 g1 hV2
          by_cases hm0 : m = 0
          · subst hm0
            obtain ⟨rfl, rfl⟩ := hnc.out rfl
            have hos : os = [] := List.eq_nil_of_length_eq_zero hm.out
            subst hos
            rw [List.nil_append] at HI2
            have g0 := EZ.cell 2 rfl 0 rfl
            have g1 := EZ.cell 2 rfl 1 rfl
            clear hlo HA HI HB o hnc
            have OL : ∀ b : Nat, Ow kItem (Hp.one b (.cells #[.int .i64 x.kind, .int .i64 x.amt] 36 (0, 0))) (some ⟨b, 0, none⟩) 1 [x] := fun b => Ow.lit (xs := [x]) (Hp.one_self _ _) (by simp [maxLen])
            go_wp2
            go_region_held3 (fun V => V.cell? ⟨q, 0, none⟩ = some (.int .i64 x.kind) ∧ V.cell? ⟨q, 1, none⟩ = some (.int .i64 x.amt))
              (first | go_keep | (go_split_ands; exact ⟨E5.cell 2 rfl 0 rfl, E5.cell 2 rfl 1 rfl⟩) | (go_split_ands; exact ⟨E6.cell 2 rfl 0 rfl, E6.cell 2 rfl 1 rfl⟩))
              (first
                | (refine step_eappF (sx := .tmp 61) (xx := .tmp 67) (h := h') (xs := []) (ys := [x]) 1 Try.underlying37 info_item E5 (by rfl) (Ow.none _ _) o5.sl (E5.sub 3 rfl) 0 1 rfl rfl kItem_flat (by rfl) (by rfl) rfl n5 (by rfl) (by rfl) (by omega) (by omega) ?_; intro C6 n6 w6 h6 o6 E6; simp at E6)
                | (refine step_eappF (sx := .tmp 63) (xx := .tmp 66) (hx := Hp.none) (xs := [x]) (ys := []) 3 Try.underlying37 info_item (EZ.drew.alloc (.cells #[.int .i64 x.kind, .int .i64 x.amt] 36)) (by rfl) (OL _) (Sl.none _ _) (Hp.none_sub _) 1 0 rfl rfl kItem_flat (by rfl) (by rfl) rfl 0 (by rfl) (by rfl) (by omega) (by omega) ?_; intro C5 n5 w5 h5 o5 E5; simp at E5)
                | fail)
            have E7 := (E6.drop 3).drop 2
            simp at E7
            rw [List.nil_append, ← HI2.out] at o6
            go_wp2
            go_roundw
            case rel => exact ⟨j + 1, _, 1, _, h6, refAdd (zs.take (j + 1)), by omega, by go_num, rfl, HLN, by omega, rfl, fun e => absurd e (by omega), o6, E7⟩
            case measure => simp [intOf]; omega
          · obtain ⟨ad, rfl⟩ := o.some_of_lt (i := 0) (by have := hm.out; omega)
            obtain ⟨b1, o1, _, _, rfl, _⟩ := o.row ad rfl (by have := hm.out; omega)
            have g0 := EZ.cell 2 rfl 0 rfl
            have g1 := EZ.cell 2 rfl 1 rfl
            have k1 : (0 : Int) ≤ (m : Int) := by omega
            have k3 : (m : Int) ≤ (cap : Int) := by have := hm.out; omega
            have oc : Ow kItem h' (some ⟨b1, o1, none⟩) m os := by
              have := Ow.cut2 o (show m ≤ os.length by have := hm.out; omega)
              rw [List.take_of_length_le (by rw [hm.out]; omega)] at this; exact this
            have sd : Sl kItem h' (if cap = m then some ⟨b1, o1, none⟩ else some ⟨b1, o1 + m * 2, none⟩) (cap - m) [] := by
              have := o.sl.behind m
              rw [List.drop_eq_nil_of_le (by rw [hm.out]; omega)] at this; exact this
            clear hlo HA HI HB o
            have OL : ∀ b : Nat, Ow kItem (Hp.one b (.cells #[.int .i64 x.kind, .int .i64 x.amt] 36 (0, 0))) (some ⟨b, 0, none⟩) 1 [x] := fun b => Ow.lit (xs := [x]) (Hp.one_self _ _) (by simp [maxLen])
            go_wp2
            go_region_held3 (fun V => V.cell? ⟨q, 0, none⟩ = some (.int .i64 x.kind) ∧ V.cell? ⟨q, 1, none⟩ = some (.int .i64 x.amt))
              (first | go_keep | (go_split_ands; exact ⟨E5.cell 2 rfl 0 rfl, E5.cell 2 rfl 1 rfl⟩) | (go_split_ands; exact ⟨E6.cell 2 rfl 0 rfl, E6.cell 2 rfl 1 rfl⟩))
              (first
                | (refine step_eappF (sx := .tmp 61) (xx := .tmp 67) (xs := os) (ys := [x]) 1 Try.underlying37 info_item E5 (by rfl) oc o5.sl (E5.sub 3 rfl) m 1 hm.out rfl kItem_flat (by rfl) (by rfl) rfl n5 (by rfl) (by rfl) (by omega) (by omega) ?_; intro C6 n6 w6 h6 o6 E6; simp at E6)
                | (refine step_eappF (sx := .tmp 63) (xx := .tmp 66) (xs := [x]) (ys := []) 3 Try.underlying37 info_item (EZ.drew.alloc (.cells #[.int .i64 x.kind, .int .i64 x.amt] 36)) (by rfl) (OL _) sd ((EZ.drew.alloc (.cells #[.int .i64 x.kind, .int .i64 x.amt] 36)).sub 1 rfl) 1 0 rfl rfl kItem_flat (by rfl) (by rfl) rfl (cap - m) (by rfl) (by rfl) (by omega) (by omega) ?_; intro C5 n5 w5 h5 o5 E5; simp at E5)
                | fail)
            have E7 := (E6.drop 3).drop 2
            simp at E7
            rw [← HI2.out] at o6
            go_wp2
            go_roundw
            case rel => exact ⟨j + 1, _, m + 1, _, h6, refAdd (zs.take (j + 1)), by omega, by go_num, rfl, HLN, by omega, rfl, fun e => absurd e (by omega), o6, E7⟩
            case measure => simp [intOf]; omega
    · obtain rfl : j = zs.length := by omega
      rw [List.take_length] at ho
      have HO : Hid (Ow kItem h' C cap (refAdd zs)) := by rw [← ho.out]; exact o
      have HN : Hid (n = (refAdd zs).length) := by unfold Hid; rw [← ho.out, hm.out]
      have HU := Lib.hid (E.made (h := h') (by simp))
      clear ho o hm
      go_wp2
      go_ret
      exact ⟨C, cap, h', by rw [HN.out]; rfl, HO.out, HU.out⟩
end Go.Proofs.Ytdcfojohgcmpcaa
end
section
/- '==' and '!=' of structs as one Bool. No program is named here. -/
namespace Go.Sl
open Go Go.RowKit
section
variable {P : Program} {d : Nat} {xs ys : Array Value} {f : Field} {fs : List Field} {a b : Value} {r s : Bool} {w : World}

theorem eqFields_nil : (Op.eqFields d xs ys []).run P w = .ok true w := by simp [Op.eqFields]
theorem eqFields_cons (hn : (f.name == "_") = false) (ha : (Go.part f.type xs f.offset).run P w = .ok a w) (hb : (Go.part f.type ys f.offset).run P w = .ok b w)
    (he : (Op.equalIn d f.type a b).run P w = .ok r w) (hr : (Op.eqFields d xs ys fs).run P w = .ok s w) : (Op.eqFields d xs ys (f :: fs)).run P w = .ok (r && s) w := by
  have hn' : f.name ≠ "_" := by simpa using hn
  rw [Op.eqFields]
  simp only [if_pos hn', Sem.run_bind, ha, hb, he, Result.andThen_ok]
  cases r
  · simp
  · simpa using hr
theorem equalIn_struct {t : TypeId} {fs : Array Field} (hu : P.underlying t = some (.struct fs)) (hp : P.stoodInHeld t = false)
    (h : (Op.eqFields d xs ys fs.toList).run P w = .ok r w) : (Op.equalIn (d + 1) t (.agg xs) (.agg ys)).run P w = .ok r w := by
  have hf : P.fieldsOf t = fs := by simp [Program.fieldsOf, hu]
  rw [run_equalIn_struct (P := P) w d t xs ys (by rw [hf]; exact hu) hp, hf]
  exact h
theorem neq_struct {t : TypeId} (h : (Op.equalIn 10000 t (.agg xs) (.agg ys)).run P w = .ok r w) : (binOp .neq t (.agg xs) (.agg ys)).run P w = .ok (.bool (!r)) w := by
  rw [run_neq_struct, h]; rfl
theorem eql_struct {t : TypeId} (h : (Op.equalIn 10000 t (.agg xs) (.agg ys)).run P w = .ok r w) : (binOp .eql t (.agg xs) (.agg ys)).run P w = .ok (.bool r) w := by
  rw [run_eql_struct, h]; rfl
end
end Go.Sl
end
section
/- keep.Same of lists of items: the same things? -/
namespace Go.Proofs.Ytdcfojohgcmpcaa
open Go.RowKit Go.Sl
set_option maxHeartbeats 400000
theorem equalIn_item (d : Nat) (x0 x1 y0 y1 : Int) (w : World) : (Op.equalIn (d + 2) 36 (.agg #[.int .i64 x0, .int .i64 x1]) (.agg #[.int .i64 y0, .int .i64 y1])).run Try.prog w = .ok (x0 == y0 && (x1 == y1 && true)) w := by
  refine equalIn_struct (d := d + 1) Try.underlying36 (by kernel_rfl) ?_
  refine eqFields_cons (by rfl) (by go_simp; rfl) (by go_simp; rfl) (by go_simp) ?_
  refine eqFields_cons (by rfl) (by go_simp; rfl) (by go_simp; rfl) (by go_simp) ?_
  exact eqFields_nil
theorem ne_item (x y : SItem) (w : World) : (binOp .neq 36 (.agg #[.int .i64 x.kind, .int .i64 x.amt]) (.agg #[.int .i64 y.kind, .int .i64 y.amt])).run Try.prog w = .ok (.bool (neB x y)) w := by
  have h := equalIn_item 9998 x.kind x.amt y.kind y.amt w
  simp only [Nat.reduceAdd] at h
  rw [neq_struct h]
  have : (x.kind == y.kind && (x.amt == y.amt && true)) = decide (x = y) := by
    rw [Bool.eq_iff_iff]; cases x; cases y; simp
  rw [this]; rfl
theorem same_item (A B : Option Addr) (ca cb : Nat) (xs ys : List SItem) (h k : Hp) (w : World) (hs : h.sub w) (ks : k.sub w) (sx : Sl kItem h A ca xs) (sy : Sl kItem k B cb ys) :
    Calls Try.prog 24 #[.slice A xs.length ca, .slice B ys.length cb] w fun e w' => e = .returned (.bool (eqB xs ys)) ∧ Below w.heap.size w w' := by
  have m1 := sx.small
  have m2 := sy.small
  by_cases hl : xs.length = ys.length
  · have hl1 : ((xs.length : Int) == (ys.length : Int)) = true := by simp [hl]
    have hl2 : ((xs.length : Int) != (ys.length : Int)) = false := by simp [hl]
    have hL := Lib.hid hl
    clear hl
    go_enter Try.func24, Try.ntmps24
    go_wp2
    clear hl1 hl2
    go_loopw [5] (fun i wr => ∃ j : Nat, j ≤ xs.length ∧ i = .int .i64 j ∧ Hid (xs.take j = ys.take j) ∧ Below w.heap.size w wr) (fun i _ => xs.length - (intOf i).toNat)
    case atStart => exact ⟨0, by omega, rfl, rfl, Below.refl _ _⟩
    case round =>
      obtain ⟨j, hj, rfl, he, hb⟩ := hrel
      by_cases hlt : j < xs.length
      · have hlt2 : j < ys.length := by have := hL.out; omega
        obtain ⟨x, hx⟩ := some_of_lt hlt
        obtain ⟨y, hy⟩ := some_of_lt hlt2
        obtain ⟨b1, o1, rfl, c1, c2⟩ := sx.item (hs.of_below hb) hx
        obtain ⟨b2, o2, rfl, d1, d2⟩ := sy.item (ks.of_below hb) hy
        have hn := ne_item x y
        have i1 : (0 : Int) ≤ (j : Int) := by omega
        have i2 : (j : Int) < (xs.length : Int) := by omega
        have i3 : (j : Int) < (ys.length : Int) := by omega
        have hE := take_both hx hy
        by_cases hxy : x = y
        · have hd := neB_f hxy
          have hE2 := hE.2 ⟨he, hxy⟩
          clear hxy hE
          go_wp2
          go_region_held3 (fun w' => w'.cell? ⟨b1, o1 + j * 2, none⟩ = some (.int .i64 x.kind) ∧ w'.cell? ⟨b1, o1 + j * 2 + 1, none⟩ = some (.int .i64 x.amt) ∧ w'.cell? ⟨b2, o2 + j * 2, none⟩ = some (.int .i64 y.kind) ∧ w'.cell? ⟨b2, o2 + j * 2 + 1, none⟩ = some (.int .i64 y.amt)) (go_keep) (fail)
          go_wp2
          go_roundw
          case rel => exact ⟨j + 1, by omega, by go_num, hE2, hb.drew⟩
          case measure => simp [intOf]; omega
        · have hd := neB_t hxy
          have hne : Hid (xs ≠ ys) := fun e => hxy (by have := hx.out; rw [e, hy.out] at this; exact (Option.some.inj this).symm)
          clear hxy hE
          go_wp2
          go_region_held3 (fun w' => w'.cell? ⟨b1, o1 + j * 2, none⟩ = some (.int .i64 x.kind) ∧ w'.cell? ⟨b1, o1 + j * 2 + 1, none⟩ = some (.int .i64 x.amt) ∧ w'.cell? ⟨b2, o2 + j * 2, none⟩ = some (.int .i64 y.kind) ∧ w'.cell? ⟨b2, o2 + j * 2 + 1, none⟩ = some (.int .i64 y.amt)) (go_keep) (fail)
          go_wp2
          go_ret
          exact ⟨by rw [eqB_f hne.out]; rfl, hb.drew⟩
      · have hfin : Hid (xs = ys) := by
          have h1 := he.out
          have hjl : j = xs.length := by omega
          rw [hjl, List.take_length] at h1
          rw [h1, hL.out, List.take_length]; rfl
        go_wp2
        go_ret
        exact ⟨by rw [eqB_t hfin.out]; rfl, hb⟩
  · have hl1 : ((xs.length : Int) == (ys.length : Int)) = false := by simp; omega
    have hl2 : ((xs.length : Int) != (ys.length : Int)) = true := by simp; omega
    have hne : Hid (xs ≠ ys) := fun e => hl (by rw [e])
    clear hl
    go_enter Try.func24, Try.ntmps24
    go_wp2
    go_ret
    exact ⟨by rw [eqB_f hne.out]; rfl, Below.refl _ _⟩
end Go.Proofs.Ytdcfojohgcmpcaa
end
