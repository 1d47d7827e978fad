/- The law CrossSums: for every input it returns true, and its arguments read behind the call as before it. No conditions. -/
import Derived.Test.YthcapomobidnbaaPk2
import Derived.Lib.Bytealg
import Derived.Test.YthcapomobidnbaaChecked
import Derived.Shelf.SlSortCmp.WholeK
import Derived.Shelf.SlGeneric
import Derived.Shelf.Abstract
import Derived.Laws.CopyRow
import Derived.Lib.BufferMore
import Derived.Shelf.Small.Strs
import Derived.Deep.RegionHeld3
import Derived.Deep.QuietTactic
import Derived.BigQuiet
import Derived.Laws.BytesString
import Derived.OwnWalk
section
/- The order of strings, plain; pairs of them. No program is named here. -/
namespace Go.Sl
open Go Go.RowKit
def cmpS (a b : ByteArray) : Int := Lib.compareBytes a.data.toList b.data.toList
theorem cmpB_self : ∀ l : List UInt8, Lib.compareBytes l l = 0
  | [] => rfl
  | x :: l => by simp [Lib.compareBytes, UInt8.lt_irrefl, cmpB_self l]
theorem cmpB_rng : ∀ a b : List UInt8, Lib.compareBytes a b = -1 ∨ Lib.compareBytes a b = 0 ∨ Lib.compareBytes a b = 1
  | [], [] => by simp [Lib.compareBytes]
  | [], _ :: _ => by simp [Lib.compareBytes]
  | _ :: _, [] => by simp [Lib.compareBytes]
  | a :: az, b :: bs => by
    unfold Lib.compareBytes
    split
    · simp
    · split
      · simp
      · exact cmpB_rng az bs
theorem u8_tri (a b : UInt8) : a < b ∨ a = b ∨ b < a := by
  simp only [UInt8.lt_iff_toNat_lt, ← UInt8.toNat_inj]; omega
theorem cmpB_eq : ∀ {a b : List UInt8}, Lib.compareBytes a b = 0 → a = b
  | [], [], _ => rfl
  | [], _ :: _, h => by simp [Lib.compareBytes] at h
  | _ :: _, [], h => by simp [Lib.compareBytes] at h
  | a :: az, b :: bs, h => by
    unfold Lib.compareBytes at h
    split at h
    · simp at h
    · split at h
      · simp at h
      · rename_i h1 h2
        rcases u8_tri a b with h3 | h3 | h3
        · exact absurd h3 h1
        · rw [h3, cmpB_eq h]
        · exact absurd h3 h2
theorem u8_asymm {a b : UInt8} (h : a < b) : ¬ b < a := by simp only [UInt8.lt_iff_toNat_lt] at *; omega
theorem cmpB_swap : ∀ a b : List UInt8, Lib.compareBytes b a = -Lib.compareBytes a b
  | [], [] => rfl
  | [], _ :: _ => rfl
  | _ :: _, [] => rfl
  | a :: az, b :: bs => by
    unfold Lib.compareBytes
    by_cases h1 : a < b
    · rw [if_pos h1, if_neg (u8_asymm h1), if_pos h1]; rfl
    · by_cases h2 : b < a
      · rw [if_pos h2, if_neg h1, if_pos h2]
      · rw [if_neg h2, if_neg h1, if_neg h1, if_neg h2]; exact cmpB_swap az bs
theorem cmpB_trans : ∀ {a b c : List UInt8}, Lib.compareBytes a b = -1 → Lib.compareBytes b c = -1 → Lib.compareBytes a c = -1
  | [], [], _, h, _ => by simp [Lib.compareBytes] at h
  | [], _ :: _, [], _, h => by simp [Lib.compareBytes] at h
  | [], _ :: _, _ :: _, _, _ => rfl
  | _ :: _, [], _, h, _ => by simp [Lib.compareBytes] at h
  | _ :: _, _ :: _, [], _, h => by simp [Lib.compareBytes] at h
  | a :: az, b :: bs, c :: cs, h1, h2 => by
    unfold Lib.compareBytes at h1 h2 ⊢
    by_cases x1 : a < b
    · by_cases x2 : b < c
      · rw [if_pos (UInt8.lt_trans x1 x2)]
      · rw [if_neg x2] at h2
        by_cases x3 : c < b
        · rw [if_pos x3] at h2; simp at h2
        · have : b = c := by rcases u8_tri b c with h | h | h
                             · exact absurd h x2
                             · exact h
                             · exact absurd h x3
          subst this; rw [if_pos x1]
    · rw [if_neg x1] at h1
      by_cases x3 : b < a
      · rw [if_pos x3] at h1; simp at h1
      · have e : a = b := by rcases u8_tri a b with h | h | h
                             · exact absurd h x1
                             · exact h
                             · exact absurd h x3
        subst e
        rw [if_neg x1] at h1
        by_cases x2 : a < c
        · rw [if_pos x2]
        · rw [if_neg x2] at h2 ⊢
          by_cases x4 : c < a
          · rw [if_pos x4] at h2; simp at h2
          · rw [if_neg x4] at h2 ⊢
            exact cmpB_trans h1 h2
theorem ba_ext {a b : ByteArray} (h : a.data.toList = b.data.toList) : a = b := by
  cases a; cases b; congr 1; exact Array.toList_inj.1 h
theorem cmpS_eq {a b : ByteArray} : cmpS a b = 0 ↔ a = b := ⟨fun h => ba_ext (cmpB_eq h), fun h => by rw [h]; exact cmpB_self _⟩
/-- By the first, then the second. -/
def ordStr2 : Ord (ByteArray × ByteArray) := ⟨fun x y => decide (cmpS x.1 y.1 = -1 ∨ x.1 = y.1 ∧ cmpS x.2 y.2 = -1), by
    intro x; simp [cmpS, cmpB_self], by
    intro x y z h1 h2
    simp only [decide_eq_true_eq] at *
    rcases h1 with h1 | ⟨e1, h1⟩ <;> rcases h2 with h2 | ⟨e2, h2⟩
    · exact .inl (cmpB_trans h1 h2)
    · rw [← e2]; exact .inl h1
    · rw [e1]; exact .inl h2
    · exact .inr ⟨e1.trans e2, cmpB_trans h1 h2⟩, by
    intro x y
    simp only [decide_eq_true_eq]
    have s1 : cmpS y.1 x.1 = -cmpS x.1 y.1 := cmpB_swap _ _
    have s2 : cmpS y.2 x.2 = -cmpS x.2 y.2 := cmpB_swap _ _
    rcases cmpB_rng x.1.data.toList y.1.data.toList with h | h | h
    · exact .inl (.inl h)
    · have e := cmpS_eq.1 h
      rcases cmpB_rng x.2.data.toList y.2.data.toList with h' | h' | h'
      · exact .inl (.inr ⟨e, h'⟩)
      · exact .inr (.inl (Prod.ext e (cmpS_eq.1 h')))
      · exact .inr (.inr (.inr ⟨e.symm, by rw [s2, show cmpS x.2 y.2 = 1 from h']⟩))
    · exact .inr (.inr (.inl (by rw [s1, show cmpS x.1 y.1 = 1 from h])))⟩
def pkey (x : SPair) : ByteArray × ByteArray := (x.s, x.b)
end Go.Sl
end
section
/- Profit that is still in the group, plain. -/
namespace Go.Sl
open Go Go.RowKit
def noS (b : ByteArray) : Bool := b.toList.isEmpty
def hasP (l : List SPair) (s b : ByteArray) : Int := match find pkey (s, b) l with | some r => r.amt | none => 0
def isP (s b : ByteArray) (x : SPair) : Bool := decide (x.s = s ∧ x.b = b)
def nextP (l : List SPair) (s b : ByteArray) (v : Int) : List SPair := (l.filter fun x => !isP s b x) ++ (if v = 0 then [] else [⟨s, b, v⟩])
def addE (l : List SPair) (s b : ByteArray) (n : Int) : Int :=
  if (noS s || (noS b || (decide (s = b) || !money n))) = true then 1
  else if (decide (hasP l s b + n < 0) || !money (hasP l s b + n)) = true then 6
  else if 8 < (nextP l s b (hasP l s b + n)).length then 5 else 0
def addR (l : List SPair) (s b : ByteArray) (n : Int) : List SPair := if addE l s b n = 0 then isort ordStr2 pkey (nextP l s b (hasP l s b + n)) else l
/-- What holds of all. -/
structure GoodP (l : List SPair) : Prop where
  rise : Rising ordStr2 pkey l
  amt : ∀ x ∈ l, 1 ≤ x.amt ∧ x.amt ≤ 100000000000
  len : l.length ≤ 8
theorem GoodP.nil : GoodP [] := ⟨List.Pairwise.nil, by simp, by simp⟩
theorem filter_isP (l : List SPair) (s b : ByteArray) : (l.filter fun x => !isP s b x) = del pkey (s, b) l := by
  unfold del
  congr 1; funext x
  simp [isP, pkey]
theorem nextP_dist {l : List SPair} (h : Rising ordStr2 pkey l) (s b : ByteArray) (v : Int) : (nextP l s b v).Pairwise fun x y => pkey x ≠ pkey y := by
  unfold nextP
  rw [filter_isP]
  refine List.pairwise_append.2 ⟨(h.del ordStr2 pkey _).imp fun e => ordStr2.ne e, by split <;> simp, fun x hx y hy => ?_⟩
  split at hy
  · cases hy
  · simp at hy; subst hy
    exact (mem_del pkey |>.1 hx).2
theorem nextP_put {l : List SPair} (h : Rising ordStr2 pkey l) (s b : ByteArray) (v : Int) : isort ordStr2 pkey (nextP l s b v) = if v = 0 then del pkey (s, b) l else put ordStr2 pkey ⟨s, b, v⟩ l := by
  refine Rising.ext ordStr2 pkey (isort_rising _) ?_ fun x => ?_
  · split
    · exact h.del _ _ _
    · exact h.put _ _ _
  · rw [mem_isort (nextP_dist h s b v)]
    unfold nextP
    rw [filter_isP, List.mem_append]
    split
    · simp
    · rw [mem_put, mem_del]
      simp only [List.mem_singleton]
      constructor
      · rintro (h | h)
        · exact .inr h
        · exact .inl h
      · rintro (h | h)
        · exact .inr h
        · exact .inl h
theorem hasP_bd {l : List SPair} (g : GoodP l) (s b : ByteArray) : 0 ≤ hasP l s b ∧ hasP l s b ≤ 100000000000 := by
  unfold hasP
  split
  · rename_i r hr
    have := g.amt r (find_some hr).1; omega
  · omega
theorem addE_ok {l : List SPair} {s b : ByteArray} {n : Int} (h : addE l s b n = 0) : 0 ≤ hasP l s b + n ∧ hasP l s b + n ≤ 100000000000 ∧ (nextP l s b (hasP l s b + n)).length ≤ 8 := by
  unfold addE at h
  split at h
  · cases h
  · split at h
    · cases h
    · split at h
      · cases h
      · rename_i h1 h2 h3
        simp [money] at h2
        omega
theorem isort_length {l : List SPair} (h : l.Pairwise fun x y => pkey x ≠ pkey y) : (isort ordStr2 pkey l).length = l.length := by
  induction l with
  | nil => rfl
  | cons x l ih =>
    obtain ⟨h1, h2⟩ := List.pairwise_cons.1 h
    show (put ordStr2 pkey x (isort ordStr2 pkey l)).length = _
    have hn : find pkey (pkey x) (isort ordStr2 pkey l) = none := by
      unfold find; rw [List.find?_eq_none]; intro y hy
      have := h1 y ((mem_isort h2).1 hy)
      simpa using this.symm
    rw [len_put x (isort_rising l), del_none hn, ih h2]; rfl
theorem GoodP.add {l : List SPair} (g : GoodP l) (s b : ByteArray) (n : Int) : GoodP (addR l s b n) := by
  unfold addR
  split
  · rename_i h
    obtain ⟨h1, h2, h3⟩ := addE_ok h
    have hd := nextP_dist g.rise s b (hasP l s b + n)
    refine ⟨isort_rising _, fun x hx => ?_, by rw [isort_length hd]; exact h3⟩
    have hx := (mem_isort hd).1 hx
    unfold nextP at hx
    rcases List.mem_append.1 hx with hx | hx
    · exact g.amt x (List.mem_filter.1 hx).1
    · split at hx
      · cases hx
      · simp at hx; subst hx; show 1 ≤ hasP l s b + n ∧ hasP l s b + n ≤ 100000000000; omega
  · exact g
theorem hasP_idx (l : List SPair) (s b : ByteArray) : (idx (isP s b) l = -1 ∧ hasP l s b = 0) ∨ ∃ (i : Nat) (x : SPair), l[i]? = some x ∧ idx (isP s b) l = i ∧ hasP l s b = x.amt := by
  by_cases h : l.any (isP s b) = true
  · right
    have hlt : l.findIdx (isP s b) < l.length := List.findIdx_lt_length.2 (List.any_eq_true.1 h)
    refine ⟨l.findIdx (isP s b), l[l.findIdx (isP s b)], by simp [hlt], by unfold idx; rw [if_pos h], ?_⟩
    have hp := List.findIdx_getElem (w := hlt)
    unfold hasP find
    have : l.find? (fun y => decide (pkey y = (s, b))) = some l[l.findIdx (isP s b)] := by
      rw [List.find?_eq_some_iff_getElem]
      refine ⟨by simpa [isP, pkey] using hp, l.findIdx (isP s b), hlt, rfl, fun j hj => ?_⟩
      have := List.not_of_lt_findIdx hj
      have hf : isP s b l[j] = false := by simpa using this
      have e : isP s b l[j] = decide (pkey l[j] = (s, b)) := by simp [isP, pkey]
      rw [← e, hf]; rfl
    rw [this]
  · left
    have hn : ∀ y ∈ l, isP s b y = false := fun y hy => by
      cases e : isP s b y with
      | false => rfl
      | true => exact absurd (List.any_eq_true.2 ⟨y, hy, e⟩) h
    refine ⟨idx_miss hn, ?_⟩
    unfold hasP find
    have : l.find? (fun y => decide (pkey y = (s, b))) = none := by
      rw [List.find?_eq_none]; intro y hy; have := hn y hy; simpa [isP, pkey] using this
    rw [this]
/-- A struct's own: one slice of a kind. -/
def kOne {α : Type} (k : Kd α) : Kd (List α) where
  size := 1
  K h l cs := ∃ A cap, cs = [.slice A l.length cap] ∧ Ow k h A cap l
  pos := by decide
  len := by rintro h x cs ⟨A, cap, rfl, _⟩; rfl
  one := by rintro h x cs ⟨A, cap, rfl, _⟩ u hu; simp at hu; subst hu; rfl
  mono := by rintro h h' x cs ⟨A, cap, e, s⟩ l; exact ⟨A, cap, e, s.mono l⟩
theorem Pt.one {α : Type} {k : Kd α} {T : TypeId} {h : Hp} {b : Nat} {l : List α} {w : World} (p : Pt (kOne k) T h b l) (s : h.sub w) : ∃ A ca, h b = some (.cells #[.slice A l.length ca] T (0, 0)) ∧ w.cell? ⟨b, 0, .none⟩ = some (.slice A l.length ca) ∧ Ow k (h.del b) A ca l ∧ ∀ n, w.frozen? ⟨b, n, .none⟩ = false := by
  obtain ⟨cs, hb, A, ca, rfl, ow⟩ := p
  exact ⟨A, ca, hb, by rw [cell_of_row w b 0 _ _ _ (s b _ hb)]; rfl, ow, fun n => frozen_of_row w b n _ _ (s b _ hb)⟩
end Go.Sl
end
section
/- The library's slices.SortFunc over cross.Row, laid at this program in plain words. -/
namespace Go.Proofs
open Go.Shelf
def Try.sortCrow_ren : Go.Shelf.Ren := ⟨fun | 6 => 61 | 15 => 76 | 14 => 78 | 28 => 90 | 29 => 91 | 20 => 92 | 21 => 93 | 22 => 94 | 23 => 95 | 24 => 96 | 25 => 97 | 26 => 98 | 27 => 99 | 46 => 114 | 47 => 110 | 48 => 111 | 49 => 115 | 50 => 116 | 57 => 121 | n => n, fun | 22 => 75 | 24 => 78 | 25 => 107 | 3 => 3 | 39 => 119 | 0 => 0 | 53 => 130 | 55 => 132 | 4 => 4 | 46 => 124 | 45 => 123 | 50 => 92 | 5 => 5 | 9 => 9 | 66 => 143 | 70 => 147 | 76 => 153 | 77 => 154 | n => n, fun | n => n⟩
theorem Try.sortCrow : Go.Proofs.SlLaysF0.n6 Try.prog Try.sortCrow_ren := {
  mixed := by kernel_rfl
  f6 := ⟨Try.f61.name, by decide, Try.func61.trans (congrArg some (by kernel_rfl))⟩
  f14 := ⟨Try.f78.name, by decide, Try.func78.trans (congrArg some (by kernel_rfl))⟩
  f15 := Try.func76.trans (congrArg some (by kernel_rfl))
  f20 := ⟨Try.f92.name, by decide, Try.func92.trans (congrArg some (by kernel_rfl))⟩
  f21 := ⟨Try.f93.name, by decide, Try.func93.trans (congrArg some (by kernel_rfl))⟩
  f22 := ⟨Try.f94.name, by decide, Try.func94.trans (congrArg some (by kernel_rfl))⟩
  f23 := ⟨Try.f95.name, by decide, Try.func95.trans (congrArg some (by kernel_rfl))⟩
  f24 := ⟨Try.f96.name, by decide, Try.func96.trans (congrArg some (by kernel_rfl))⟩
  f25 := ⟨Try.f97.name, by decide, Try.func97.trans (congrArg some (by kernel_rfl))⟩
  f26 := ⟨Try.f98.name, by decide, Try.func98.trans (congrArg some (by kernel_rfl))⟩
  f27 := ⟨Try.f99.name, by decide, Try.func99.trans (congrArg some (by kernel_rfl))⟩
  f28 := Try.func90.trans (congrArg some (by kernel_rfl))
  f29 := Try.func91.trans (congrArg some (by kernel_rfl))
  f46 := ⟨Try.f114.name, by decide, Try.func114.trans (congrArg some (by kernel_rfl))⟩
  f47 := Try.func110.trans (congrArg some (by kernel_rfl))
  f48 := Try.func111.trans (congrArg some (by kernel_rfl))
  f49 := ⟨Try.f115.name, by decide, Try.func115.trans (congrArg some (by kernel_rfl))⟩
  f50 := ⟨Try.f116.name, by decide, Try.func116.trans (congrArg some (by kernel_rfl))⟩
  f57 := ⟨Try.f121.name, by decide, Try.func121.trans (congrArg some (by kernel_rfl))⟩
  t0 := Try.underlying0
  a0 := Try.isAgg0
  z0 := Try.sizeOf0
  v0 := Try.zeroValue0
  t3 := Try.underlying3
  a3 := Try.isAgg3
  z3 := Try.sizeOf3
  v3 := Try.zeroValue3
  t4 := Try.underlying4
  a4 := Try.isAgg4
  z4 := Try.sizeOf4
  v4 := Try.zeroValue4
  t5 := Try.underlying5
  a5 := Try.isAgg5
  z5 := Try.sizeOf5
  v5 := Try.zeroValue5
  t9 := Try.underlying9
  a9 := Try.isAgg9
  z9 := Try.sizeOf9
  v9 := Try.zeroValue9
  t22 := Try.underlying75
  a22 := Try.isAgg75
  z22 := Try.sizeOf75
  v22 := Try.zeroValue75
  t25 := Try.underlying107
  a25 := Try.isAgg107
  z25 := Try.sizeOf107
  v25 := Try.zeroValue107
  t39 := Try.underlying119
  a39 := Try.isAgg119
  z39 := Try.sizeOf119
  v39 := Try.zeroValue119
  t45 := Try.underlying123
  a45 := Try.isAgg123
  z45 := Try.sizeOf123
  v45 := Try.zeroValue123
  t46 := Try.underlying124
  a46 := Try.isAgg124
  z46 := Try.sizeOf124
  v46 := Try.zeroValue124
  t50 := Try.underlying92
  a50 := Try.isAgg92
  z50 := Try.sizeOf92
  v50 := Try.zeroValue92
  t53 := Try.underlying130
  a53 := Try.isAgg130
  z53 := Try.sizeOf130
  v53 := Try.zeroValue130
  t55 := Try.underlying132
  a55 := Try.isAgg132
  z55 := Try.sizeOf132
  v55 := Try.zeroValue132
  t66 := Try.underlying143
  a66 := Try.isAgg143
  z66 := Try.sizeOf143
  v66 := Try.zeroValue143
  t70 := Try.underlying147
  a70 := Try.isAgg147
  z70 := Try.sizeOf147
  v70 := Try.zeroValue147
  t76 := Try.underlying153
  a76 := Try.isAgg153
  z76 := Try.sizeOf153
  v76 := Try.zeroValue153
  t77 := Try.underlying154
  a77 := Try.isAgg154
  z77 := Try.sizeOf154
  v77 := Try.zeroValue154 }
end Go.Proofs
end
section
/- What the type table says of cross.Row. -/
namespace Go.Proofs.Ythcapomobidnbaa
open Go.RowKit Go.Sl
set_option maxHeartbeats 1000000
set_option maxRecDepth 100000
theorem info_crow : Info Try.prog 78 (.agg #[.string ⟨#[]⟩, .string ⟨#[]⟩, .int .i64 0]) 3 40 := by unfold Info; kernel_rfl
end Go.Proofs.Ythcapomobidnbaa
end
section
/- slices.SortFunc over cross.Row, whatever the order. -/
namespace Go.Sl
instance : Inhabited SPair := ⟨⟨⟨#[]⟩, ⟨#[]⟩, 0⟩⟩
end Go.Sl
namespace Go.Proofs.Ythcapomobidnbaa
open Go.RowKit Go.Sl Go.Sort
set_option maxHeartbeats 1000000
set_option maxRecDepth 100000
theorem ins0_crow (p : Option Addr) (cap : Nat) (fv : Value) (w : World) : Calls Try.prog 92 #[.slice p 0 cap, .int .i64 0, .int .i64 0, fv] w fun e w' => e = .returned (.tuple #[]) ∧ w = w' := by
  go_enter Try.func92, Try.ntmps92
  go_wp2
  go_loop [8] (fun i => i = .int .i64 1) (fun _ => 0)
  case atStart => exact rfl
  case round =>
    obtain rfl := hrel
    go_wp2
    go_end0
    exact ⟨rfl, rfl⟩
theorem pdq0_crow (p : Option Addr) (cap : Nat) (lim : Int) (fv : Value) (w : World) : Calls Try.prog 78 #[.slice p 0 cap, .int .i64 0, .int .i64 0, .int .i64 lim, fv] w fun e w' => e = .returned (.tuple #[]) ∧ w = w' := by
  go_enter Try.func78, Try.ntmps78
  go_wp2
  go_loop [10, 1, 2] (fun b x y => b = .bool true ∧ x = .int .i64 0 ∧ y = .int .i64 0) (fun _ _ _ => 0)
  case atStart => exact ⟨rfl, rfl, rfl⟩
  case round =>
    obtain ⟨rfl, rfl, rfl⟩ := hrel
    go_wp2_with fail
    refine (ins0_crow p cap fv w).mono ?_
    rintro e w' ⟨rfl, rfl⟩
    go_wp2
    exact bodyPost_ret (v := .tuple #[]) (by simp [results, Try.results78, go_sem]) rfl ⟨rfl, rfl⟩
theorem sortNone_crow (p : Option Addr) (cap : Nat) (fv : Value) (w : World) : Calls Try.prog 61 #[.slice p 0 cap, fv] w fun e w' => e = .returned (.tuple #[]) ∧ w = w' := by
  have hl : ∀ W, Calls Try.prog 76 #[.int .u64 0] W fun e w' => e = .returned (.int .i64 (Go.Lib.bitLen 0 : Nat)) ∧ w' = W := fun W =>
    Go.Proofs.Any.bits_Len (Go.Proofs.SlLaysF0.n15.bits (P := Try.prog) (ρ := Try.sortCrow_ren) { Try.sortCrow with }) 0 W (by omega) (by omega)
  go_enter Try.func61, Try.ntmps61
  go_wp2_with fail
  refine (hl _).mono ?_
  rintro e w' ⟨rfl, rfl⟩
  go_wp2_with fail
  refine (pdq0_crow p cap _ fv _).mono ?_
  rintro e w' ⟨rfl, rfl⟩
  go_wp2
  go_end0
  exact ⟨rfl, rfl⟩
theorem sortFunc_crow {κ : Type} [DecidableEq κ] (od : Go.Sl.Ord κ) (key : SPair → κ) (cf : SPair → SPair → Int) (hlt : ∀ x y, Go.Proofs.ltOf cf x y = od.lt (key x) (key y)) (g : FuncId) (eg : Enters Try.prog g)
    (hc : ∀ (x y : SPair) (W : World), Calls Try.prog g #[.agg #[.string x.s, .string x.b, .int .i64 x.amt], .agg #[.string y.s, .string y.b, .int .i64 y.amt]] W fun e W' => e = .returned (.int .i64 (cf x y)) ∧ ∃ q os', W' = grow (W.drewN q) os')
    (A : Option Addr) (ca : Nat) (rows : List SPair) (h : Hp) (w : World) (hs : h.sub w) (o : Ow kPair h A ca rows) (hn : rows.Pairwise fun x y => key x ≠ key y) (hl : rows.length ≤ 1000000) :
    Calls Try.prog 61 #[.slice A rows.length ca, .func (.func g) #[] #[]] w fun e w' => ∃ h', e = .returned (.tuple #[]) ∧ Ow kPair h' A ca (isort od key rows) ∧ Upd h h' w w' := by
  by_cases h0 : 0 < rows.length
  · obtain ⟨ad, hA⟩ := o.some_of_lt h0
    obtain ⟨b, off, cur, T, e, hbk, _, _⟩ := o.row ad hA (by have := o.le; omega)
    subst e
    subst hA
    have hH := o.holds hs h0
    have hblk : b < w.heap.size := hs.lt (by simp [hbk])
    have hcmp : Go.Proofs.CmpLays Try.prog g #[] SPair.cells 3 cf b off rows.toArray.size w := fun _ _ _ _ x y => hc x y _
    have key' := Go.Proofs.AnyQ.slices_SortFunc Try.sortCrow 3 (fun w => by kernel_rfl) (fun w => by kernel_rfl) SPair.cells (fun _ => rfl) (fun x v hv => by simp [SPair.cells] at hv; rcases hv with rfl | rfl | rfl <;> rfl) cf (swo_ord od key _ hlt) g #[] b off ca rows.toArray w eg hcmp hH hblk (by simp; omega)
    refine key'.mono ?_
    rintro e w' ⟨he, d, n, os, hp, hso, hw⟩
    have hd : d.size = rows.length := by simpa using hp.1
    obtain ⟨h', o', u'⟩ := o.sorted hs h0 hd hw
    rw [isort_of hn hlt (by simpa using hp) (by simpa using hso)] at o'
    exact ⟨h', he, o', u'⟩
  · have hz0 : rows = [] := List.eq_nil_of_length_eq_zero (by omega)
    subst hz0
    exact (sortNone_crow A ca _ w).mono fun _ _ ⟨he, hw⟩ => ⟨h, he, o, by subst hw; exact Upd.stay hs (Below.refl _ _)⟩
end Go.Proofs.Ythcapomobidnbaa
end
section
/- slices.IndexFunc over cross.Row, whatever the predicate. -/
namespace Go.Proofs.Ythcapomobidnbaa
open Go.RowKit Go.Sl
set_option maxHeartbeats 1000000
set_option maxRecDepth 100000
theorem indexFunc_crow (g : FuncId) (lb : Array Value) (eg : Enters Try.prog g) (p : SPair → Bool) (A : Option Addr) (ca : Nat) (xs : List SPair) (h : Hp) (w : World) (hs : h.sub w) (sx : Sl kPair h A ca xs)
    (hp : ∀ (x : SPair) (W : World), Below w.heap.size w W → Calls Try.prog g (#[.agg #[.string x.s, .string x.b, .int .i64 x.amt]] ++ lb) W fun e W' => e = .returned (.bool (p x)) ∧ Below W.heap.size W W') :
    Calls Try.prog 59 #[.slice A xs.length ca, .func (.func g) #[] lb] w fun e w' => e = .returned (.int .i64 (idx p xs)) ∧ Below w.heap.size w w' := by
  have m1 := sx.small
  have eg' := fun (args : Array Value) (w : World) => eg args w
  go_enter Try.func59, Try.ntmps59
  go_wp2
  go_loopw [8] (fun i wr => ∃ (j : Nat), j ≤ xs.length ∧ i = .int .i64 j ∧ Hid (∀ y ∈ xs.take j, p y = false) ∧ Below w.heap.size w wr) (fun i _ => xs.length - (intOf i).toNat)
  case atStart => exact ⟨0, by omega, rfl, by unfold Hid; simp, Below.refl _ _⟩
  case round =>
    obtain ⟨j, hj, rfl, hn, hb⟩ := hrel
    by_cases hlt : j < xs.length
    · obtain ⟨x, hx⟩ := some_of_lt hlt
      obtain ⟨b1, o1, rfl, c1, c2, c3⟩ := sx.pair (hs.of_below hb) hx
      have i1 : (0 : Int) ≤ (j : Int) := by omega
      have i2 : (j : Int) < (xs.length : Int) := by omega
      have hpx := Lib.hid (hp x wr hb)
      by_cases hpp : p x = true
      · have HF : Hid (idx p xs = j) := idx_hit hn.out hx.out hpp
        go_wp2_with fail
        refine hpx.out.mono ?_
        rintro e w1 ⟨rfl, b1⟩
        go_wp2
        go_ret
        exact ⟨by rw [HF.out]; rfl, hb.trans (b1.mono hb.size)⟩
      · have hpf : p x = false := by simpa using hpp
        have HN : Hid (∀ y ∈ xs.take (j + 1), p y = false) := by
          intro y hy
          rw [take_next hx] at hy
          rcases List.mem_append.1 hy with hy | hy
          · exact hn.out y hy
          · simp at hy; subst hy; exact hpf
        clear hpp
        go_wp2_with fail
        refine hpx.out.mono ?_
        rintro e w1 ⟨rfl, b1⟩
        go_wp2
        go_roundw
        case rel => exact ⟨j + 1, by omega, by go_num, HN, hb.trans (b1.mono hb.size)⟩
        case measure => simp [intOf]; omega
    · have HF : Hid (idx p xs = -1) := idx_miss (fun y hy => hn.out y (by rw [List.take_of_length_le (by omega)]; exact hy))
      go_wp2
      go_ret
      exact ⟨by rw [HF.out]; rfl, hb⟩
end Go.Proofs.Ythcapomobidnbaa
end
section
/- clear of the rest of an owned slice; elements moved to the front. No program is named here. -/
namespace Go.Sl
open Go Go.RowKit
section
variable {P : Program} {α : Type} {k : Kd α} {h : Hp} {b off cap : Nat} {xs : List α} {w : World}
/-- A row that stands in its first m elements. -/
theorem Ow.rowTake {E : TypeId} {cur cur' : Array Value} (o : Ow k h (some ⟨b, off, .none⟩) cap xs) (s : h.sub w) (h0 : 0 < cap) (hb : h b = some (.cells cur E (0, 0))) (hsz : cur'.size = cur.size) {m : Nat} (hm : m ≤ xs.length)
    (hc : ∀ q, q < off + m * k.size → cur'[q]? = cur[q]?) : ∃ h', Ow k h' (some ⟨b, off, .none⟩) cap (xs.take m) ∧ Upd h h' w (w.setRow b cur') := by
  obtain ⟨b', off', cur0, E0, e, hb0, hsz0, hrow⟩ := o.row _ rfl h0
  cases e
  rw [hb] at hb0
  cases hb0
  have hbw := s b _ hb
  have hdel : (h.put b (.cells cur' E (0, 0))).del b = h.del b := by
    funext q; simp only [Hp.del, Hp.put]; split <;> simp_all
  refine ⟨h.put b (.cells cur' E (0, 0)), ⟨by have := o.le; rw [List.length_take]; omega, o.max, o.nil, ?_⟩, rfl, rfl, rfl, by simp, fun q hq hn => setRow_other w b q _ (fun e => by rw [e, hb] at hn; cases hn), ?_, ?_⟩
  · rintro ad ⟨⟩ _
    refine ⟨b, off, _, E, rfl, if_pos rfl, by rw [hsz]; exact hsz0, fun i x hx => ?_⟩
    rw [hdel]
    rw [List.getElem?_take] at hx
    split at hx
    · rename_i hi
      obtain ⟨cs, hK, hcs⟩ := hrow i x hx
      refine ⟨cs, hK, fun j u hu => ?_⟩
      have hj : j < k.size := by rw [← k.len hK]; exact (List.getElem?_eq_some_iff.1 hu).1
      have h1 : (i + 1) * k.size ≤ m * k.size := Nat.mul_le_mul_right _ hi
      rw [Nat.add_mul] at h1
      rw [hc _ (by omega)]
      exact hcs j u hu
    · cases hx
  · intro q o' e'
    simp only [Hp.put] at e'
    split at e'
    · rename_i hq; cases e'; rw [hq]; exact setRow_heap w b cur _ E _ hbw
    · rename_i hq; rw [setRow_other w b q _ hq]; exact s q o' e'
  · intro q hq
    left
    simp only [Hp.put] at hq
    split at hq
    · rename_i h2; rw [h2, hb]; simp
    · exact hq
theorem run_clear_none {t e ty : TypeId} {A : Option Addr} {c : Nat} (ht : P.underlying t = some (.slice e)) (w : World) : (Builtin.clear_ #[t] ty #[.slice A 0 c]).run P w = .ok (.tuple #[]) w := by
  cases A <;> simp [Builtin.clear_, run_underlying ht]
theorem run_clear_rest {t e ty : TypeId} {z : Value} (ht : P.underlying t = some (.slice e)) (hv : ∀ w, (zeroValue e).run P w = .ok z w) (hz : z.cells.size = k.size) (hz1 : ∀ u ∈ z.cells.toList, u.oneCell' = true)
    (o : Ow k h (some ⟨b, off, .none⟩) cap xs) (s : h.sub w) {i : Nat} (hi : i < xs.length) (c : Nat) :
    ∃ w' h', (Builtin.clear_ #[t] ty #[.slice (some ⟨b, off + i * k.size, .none⟩) (xs.length - i) c]).run P w = .ok (.tuple #[]) w' ∧ Ow k h' (some ⟨b, off, .none⟩) cap (xs.take i) ∧ Upd h h' w w' := by
  have hcap := o.le
  obtain ⟨b', off', cur, E, e, hb, hsz, hrow⟩ := o.row _ rfl (by omega)
  cases e
  have hbw := s b _ hb
  generalize hzs : (Builtin.zeroCells z.cells (xs.length - i)).toList = zs
  have hlen : zs.length = (xs.length - i) * k.size := by rw [← hzs]; simp [Builtin.zeroCells, hz]
  have hz2 : ∀ u ∈ zs, u.oneCell' = true := by
    intro u hu
    rw [← hzs] at hu
    simp only [Builtin.zeroCells, Array.toList_map, List.mem_map] at hu
    obtain ⟨q, hq, rfl⟩ := hu
    have hp : 0 < z.cells.size := by rw [hz]; exact k.pos
    have hlt : q % z.cells.size < z.cells.size := Nat.mod_lt _ hp
    rw [getElem!_pos z.cells _ hlt]
    exact hz1 _ (by simp)
  have hmul : (xs.length - i) * k.size = xs.length * k.size - i * k.size := Nat.sub_mul _ _ _
  have hle1 : i * k.size ≤ xs.length * k.size := Nat.mul_le_mul_right _ (by omega)
  have hle2 : xs.length * k.size ≤ cap * k.size := Nat.mul_le_mul_right _ hcap
  have hst := run_storeCells_at P b (off + i * k.size) E zs 0 cur w hbw (by rw [hlen]; omega) hz2
  simp only [Nat.add_zero] at hst
  obtain ⟨h', o', u'⟩ := o.rowTake (cur' := (cur.toList.take (off + i * k.size) ++ zs ++ cur.toList.drop (off + i * k.size + zs.length)).toArray) s (by omega) hb (by simp; omega) (m := i) (by omega) (fun q hq => by
    rw [List.getElem?_toArray, List.append_assoc, List.getElem?_append_left (by rw [List.length_take, Array.length_toList]; omega), List.getElem?_take, if_pos hq]; simp)
  obtain ⟨m, hm⟩ : ∃ m, xs.length - i = m + 1 := ⟨xs.length - i - 1, by omega⟩
  rw [hm] at hzs ⊢
  exact ⟨_, h', by simp [Builtin.clear_, run_underlying ht, hv, hzs, hst], o', u'⟩
end
theorem filter_take_next {α : Type} {p : α → Bool} {xs : List α} {j : Nat} {x : α} (h : Hid (xs[j]? = some x)) : (xs.take (j + 1)).filter p = (xs.take j).filter p ++ (if p x then [x] else []) := by
  rw [take_next h, List.filter_append]
  congr 1
  cases hp : p x <;> simp [hp]
end Go.Sl
end
section
/- slices.DeleteFunc over cross.Row, whatever the predicate. -/
namespace Go.Proofs.Ythcapomobidnbaa
open Go.RowKit Go.Sl
set_option maxHeartbeats 1000000
set_option maxRecDepth 100000
theorem deleteFunc_crow (g : FuncId) (lb : Array Value) (eg : Enters Try.prog g) (p : SPair → Bool) (A : Option Addr) (ca : Nat) (xs : List SPair) (h : Hp) (w : World) (hs : h.sub w) (o : Ow kPair h A ca xs) (hl : xs.length ≤ 1000000)
    (hp : ∀ (x : SPair) (W : World) (k : Hp), Upd h k w W → Calls Try.prog g (#[.agg #[.string x.s, .string x.b, .int .i64 x.amt]] ++ lb) W fun e W' => e = .returned (.bool (p x)) ∧ Below W.heap.size W W') :
    Calls Try.prog 60 #[.slice A xs.length ca, .func (.func g) #[] lb] w fun e w' => ∃ h', e = .returned (.slice A (xs.filter fun x => !p x).length ca) ∧ Ow kPair h' A ca (xs.filter fun x => !p x) ∧ Upd h h' w w' := by
  have m1 := o.small
  have eg' := fun (args : Array Value) (w : World) => eg args w
  have IC := indexFunc_crow g lb eg p A ca xs h w hs o.sl (fun x W hW => hp x W h (Upd.stay hs hW))
  by_cases hany : xs.any p = true
  · have hlt : xs.findIdx p < xs.length := List.findIdx_lt_length.2 (List.any_eq_true.1 hany)
    obtain ⟨x0, hx0⟩ := some_of_lt hlt
    have hp0 : p x0 = true := by
      have := List.findIdx_getElem (w := hlt); rw [(List.getElem?_eq_some_iff.1 hx0.out).2] at this; exact this
    have hn0 : ∀ y ∈ xs.take (xs.findIdx p), p y = false := fun y hy => by
      obtain ⟨q, hq, rfl⟩ := List.mem_take_iff_getElem.1 hy
      have := List.not_of_lt_findIdx (show q < xs.findIdx p by omega)
      simpa using this
    have hF : idx p xs = (xs.findIdx p : Nat) := by unfold idx; rw [if_pos hany]
    rw [hF] at IC
    have hS : Hid ((xs.take (xs.findIdx p)) = (xs.take (xs.findIdx p + 1)).filter fun x => !p x) := by
      unfold Hid
      rw [filter_take_next hx0, hp0]
      simp only [Bool.not_true, Bool.false_eq_true, if_false, List.append_nil]
      exact (List.filter_eq_self.2 fun y hy => by simp [hn0 y hy]).symm
    generalize xs.findIdx p = i0 at *
    obtain ⟨ad, hA⟩ := o.some_of_lt hlt
    obtain ⟨b, off, cur, T, e, hbk, _, _⟩ := o.row ad hA (by have := o.le; omega)
    subst e
    subst hA
    have i1 : (0 : Int) ≤ (i0 : Int) := by omega
    have i2 : (i0 : Int) < (xs.length : Int) := by omega
    have hq0 : ((i0 : Int) == -1) = false := by simp
    clear hany hx0 hp0 hn0 hF hbk
    go_enter Try.func60, Try.ntmps60
    go_wp2_with fail
    refine IC.mono ?_
    rintro e w1 ⟨rfl, b1⟩
    have E1 := Upd.stay hs b1
    clear IC
    go_wp2
    go_loopw [5, 6] (fun iv jv wr => ∃ (i j : Nat) (zs : List SPair) (h' : Hp), iv = .int .i64 i ∧ jv = .int .i64 j ∧ i < j ∧ j ≤ xs.length ∧ Hid (zs.length = xs.length) ∧ Hid (zs.take i = (xs.take j).filter fun x => !p x) ∧ Hid (∀ q, j ≤ q → zs[q]? = xs[q]?) ∧ Ow kPair h' (some ⟨b, off, none⟩) ca zs ∧ Upd h h' w wr) (fun _ jv _ => xs.length - (intOf jv).toNat)
    case atStart => exact ⟨i0, i0 + 1, xs, h, rfl, by go_num, by omega, by omega, rfl, hS, fun _ _ => rfl, o, E1⟩
    case round =>
      clear E1 hS i1 i2 hlt b1
      obtain ⟨i, j, zs, h', rfl, rfl, hij, hj, hzl, hzt, hzd, oz, uz⟩ := hrel
      by_cases hlt : j < xs.length
      · obtain ⟨x, hx⟩ := some_of_lt hlt
        have hzx : Hid (zs[j]? = some x) := by unfold Hid; rw [hzd.out j (Nat.le_refl _)]; exact hx.out
        obtain ⟨b1, o1, e1, c1, c2, c3⟩ := oz.sl.pair uz.sub hzx
        cases e1
        obtain ⟨y, hy⟩ := some_of_lt (show i < zs.length by rw [hzl.out]; omega)
        obtain ⟨_, _, e2, d1, d2, d3⟩ := oz.sl.pair uz.sub hy
        cases e2
        have hlz : i < zs.length := (List.getElem?_eq_some_iff.1 hy.out).1
        have hfr := oz.cell_free uz.sub (lt_of_some hy.out)
        have hb0 : b < wr.heap.size := World.block_lt_of_cell? _ _ c1
        have i1 : (0 : Int) ≤ (j : Int) := by omega
        have i2 : (j : Int) < (xs.length : Int) := by omega
        have i3 : (0 : Int) ≤ (i : Int) := by omega
        have i4 : (i : Int) < (xs.length : Int) := by omega
        have hpx := fun (W : World) (hW : Below wr.heap.size wr W) => hp x W h' (uz.after hW)
        have HT := Lib.hid (filter_take_next (p := fun x => !p x) hx)
        have ST : ∀ V : World, h'.sub V → ∃ k, Ow kPair k (some ⟨b, off, none⟩) ca (zs.set i x) ∧ Upd h' k V (((V.setCell ⟨b, off + i * 3, none⟩ (.string x.s)).setCell ⟨b, off + i * 3 + 1, none⟩ (.string x.b)).setCell ⟨b, off + i * 3 + 2, none⟩ (.int .i64 x.amt)) := fun V S => by
          obtain ⟨k1, p1, u1⟩ := Ow.set (x' := ⟨x.s, y.b, y.amt⟩) (v := .string x.s) (j := 0) oz S hy.out (by decide) rfl
          obtain ⟨k2, p2, u2⟩ := Ow.set (x' := ⟨x.s, x.b, y.amt⟩) (v := .string x.b) (j := 1) p1 (u1.sub) (List.getElem?_set_self hlz) (by decide) rfl
          obtain ⟨k3, p3, u3⟩ := Ow.set (x' := ⟨x.s, x.b, x.amt⟩) (v := .int .i64 x.amt) (j := 2) p2 (u2.sub) (List.getElem?_set_self (by simpa using hlz)) (by decide) rfl
          rw [List.set_set, List.set_set] at p3
          exact ⟨k3, p3, ((u1.trans u2).trans u3)⟩
        cases hpp : p x with
        | true =>
          rw [hpp] at hpx HT
          have HT2 : Hid ((xs.take (j + 1)).filter (fun x => !p x) = (xs.take j).filter fun x => !p x) := by unfold Hid; rw [HT.out]; simp
          clear hpp HT ST hlz hy hfr
          go_wp2_with fail
          refine (hpx _ (by repeat (first | exact Below.refl _ _ | apply Below.drew | refine Below.alloc ?_ (by simp) _))).mono ?_
          rintro e w2 ⟨rfl, b2⟩
          go_wp2
          go_roundw
          case rel => exact ⟨i, j + 1, zs, h', rfl, by go_num, by omega, by omega, hzl, by unfold Hid; rw [HT2.out]; exact hzt.out, fun q hq => hzd.out q (by omega), oz, uz.after (((Below.refl _ _).alloc (Nat.le_refl _) _).trans (b2.mono (by simp)))⟩
          case measure => simp [intOf]; omega
        | false =>
          rw [hpp] at hpx HT
          have HT2 : Hid ((xs.take (j + 1)).filter (fun x => !p x) = (xs.take j).filter (fun x => !p x) ++ [x]) := by unfold Hid; rw [HT.out]; simp
          have HZ : Hid ((zs.set i x).take (i + 1) = zs.take i ++ [x]) := by
            unfold Hid
            rw [take_next (xs := zs.set i x) (x := x) (show Hid ((zs.set i x)[i]? = some x) from List.getElem?_set_self hlz), List.take_set_of_le (Nat.le_refl _)]
          clear hpp HT hlz hy
          go_wp2_with fail
          refine (hpx _ (by repeat (first | exact Below.refl _ _ | apply Below.drew | refine Below.alloc ?_ (by simp) _))).mono ?_
          rintro e w2 ⟨rfl, b2⟩
          have hz2 := b2.size
          simp at hz2
          have bb := ((Below.refl wr.heap.size wr).alloc (Nat.le_refl _) (.cells #[.string x.s, .string x.b, .int .i64 x.amt] 78)).trans (b2.mono (by simp))
          have q1 : w2.cell? ⟨wr.heap.size, 0, none⟩ = some (.string x.s) := (b2.cell (by simp)).trans (by rw [cell_new rfl]; rfl)
          have q2 : w2.cell? ⟨wr.heap.size, 1, none⟩ = some (.string x.b) := (b2.cell (by simp)).trans (by rw [cell_new rfl]; rfl)
          have q3 : w2.cell? ⟨wr.heap.size, 2, none⟩ = some (.int .i64 x.amt) := (b2.cell (by simp)).trans (by rw [cell_new rfl]; rfl)
          have fr2 : ∀ n, w2.frozen? ⟨b, n, none⟩ = false := fun n => (bb.frozen (p := ⟨b, n, none⟩) hb0).trans (hfr n)
          have e1 : w2.cell? ⟨b, off + i * 3, none⟩ = some (.string y.s) := (bb.cell (p := ⟨b, off + i * 3, none⟩) hb0).trans d1
          have e2 : w2.cell? ⟨b, off + i * 3 + 1, none⟩ = some (.string y.b) := (bb.cell (p := ⟨b, off + i * 3 + 1, none⟩) hb0).trans d2
          have e3 : w2.cell? ⟨b, off + i * 3 + 2, none⟩ = some (.int .i64 y.amt) := (bb.cell (p := ⟨b, off + i * 3 + 2, none⟩) hb0).trans d3
          obtain ⟨k, ok, uk⟩ := ST w2 (uz.sub.of_below bb)
          go_wp2
          go_roundw
          case rel => exact ⟨i + 1, j + 1, _, k, by go_num, by go_num, by omega, by omega, by unfold Hid; rw [List.length_set]; exact hzl.out, by unfold Hid; rw [HZ.out, HT2.out, hzt.out], fun q hq => by rw [List.getElem?_set_ne (by omega)]; exact hzd.out q (by omega), ok, (uz.after bb).trans uk⟩
          case measure => simp [intOf]; omega
      · obtain rfl : j = xs.length := by omega
        rw [List.take_length] at hzt
        obtain ⟨w2, h2, hrun, o2, u2⟩ := run_clear_rest (P := Try.prog) (t := 75) (e := 78) (ty := 0) (z := .agg #[.string ⟨#[]⟩, .string ⟨#[]⟩, .int .i64 0]) Try.underlying75 (fun w => by kernel_rfl) (by rfl) (List.all_eq_true.1 (show ((.agg #[.string ⟨#[]⟩, .string ⟨#[]⟩, .int .i64 0] : Value).cells.toList.all fun u => u.oneCell') = true from rfl)) oz uz.sub (i := i) (by rw [hzl.out]; omega) (ca - i)
        rw [hzl.out, show kPair.size = 3 from rfl] at hrun
        rw [hzt.out] at o2
        have hcap := oz.le
        rw [hzl.out] at hcap
        have i1 : (0 : Int) ≤ (i : Int) := by omega
        have i2 : (i : Int) ≤ (xs.length : Int) := by omega
        have i3 : (i : Int) ≤ (ca : Int) := by omega
        have hne : ¬ ca = i := by omega
        have hL : Hid ((xs.filter fun x => !p x).length = i) := by
          unfold Hid; rw [← hzt.out, List.length_take, hzl.out]; omega
        clear hlt
        go_wp2
        go_ret
        exact ⟨h2, by rw [hL.out]; rfl, o2, uz.trans u2⟩
  · have hn : ∀ y ∈ xs, p y = false := fun y hy => by
      cases e : p y with
      | false => rfl
      | true => exact absurd (List.any_eq_true.2 ⟨y, hy, e⟩) hany
    have hF : idx p xs = -1 := idx_miss hn
    have hfl : Hid ((xs.filter fun x => !p x) = xs) := List.filter_eq_self.2 fun y hy => by simp [hn y hy]
    rw [hF] at IC
    clear hany hF hn
    go_enter Try.func60, Try.ntmps60
    go_wp2_with fail
    refine IC.mono ?_
    rintro e w1 ⟨rfl, b1⟩
    go_wp2
    go_ret
    exact ⟨h, by rw [hfl.out]; rfl, by rw [hfl.out]; exact o, Upd.stay hs b1⟩
end Go.Proofs.Ythcapomobidnbaa
end
section
/- slices.Clone over cross.Row. -/
namespace Go.Proofs.Ythcapomobidnbaa
open Go.RowKit Go.Sl
set_option maxHeartbeats 1000000
set_option maxRecDepth 100000
theorem clone_crow (A : Option Addr) (ca : Nat) (xs : List SPair) (h : Hp) (w : World) (hs : h.sub w) (sx : Sl kPair h A ca xs) (hl : xs.length ≤ 1000000) :
    Calls Try.prog 65 #[.slice A xs.length ca] w fun e w' => ∃ C cap h', e = .returned (.slice C xs.length cap) ∧ Ow kPair h' C cap xs ∧ Upd Hp.none h' w w' := by
  cases A with
  | none =>
    have h0 := sx.nil rfl
    have h1 := sx.le
    obtain rfl : xs = [] := List.eq_nil_of_length_eq_zero (by omega)
    subst h0
    have hn : ∀ W, (binOp .eql 75 (.slice none 0 0) (.slice none 0 0)).run Try.prog W = .ok (.bool true) W := fun W => Lib.run_eql_slice_nil_nil W _ _ Try.underlying75
    go_enter Try.func65, Try.ntmps65
    go_wp2
    go_ret
    exact ⟨none, 0, Hp.none, rfl, Ow.none _ _, Upd.of_below (Below.refl _ _)⟩
  | some ad =>
    have hn : ∀ W, (binOp .eql 75 (.slice (some ad) xs.length ca) (.slice none 0 0)).run Try.prog W = .ok (.bool false) W := fun W => Lib.run_eql_slice_some_nil W _ _ _ Try.underlying75
    go_enter Try.func65, Try.ntmps65
    go_wp2_with (at_builtin; refine wpList_clone Try.underlying75 info_crow (by rfl) (by rfl) rfl xs.length ca (by rfl) (by rfl) rfl kPair_flat sx (hs.of_below (by repeat (first | exact Below.refl _ _ | apply Below.drew | refine Below.alloc ?_ (by simp) _))) (by omega) (by omega) ?_; intro C' cap' w1 h1 ho1 hu1)
    go_ret
    exact ⟨C', cap', h1, rfl, ho1, hu1.before (by repeat (first | exact Below.refl _ _ | apply Below.drew | refine Below.alloc ?_ (by simp) _))⟩
end Go.Proofs.Ythcapomobidnbaa
end
section
/- The library's strings.Compare, laid at this program in plain words. -/
namespace Go.Proofs
open Go.Shelf
def Try.laysStrCmp_ren : Go.Shelf.Ren := ⟨fun | 106 => 64 | 213 => 79 | 265 => 100 | n => n, fun | 9 => 9 | 3 => 3 | n => n, fun | n => n⟩
theorem Try.laysStrCmp : Go.Proofs.Lays.n106 Try.prog Try.laysStrCmp_ren := {
  mixed := by kernel_rfl
  f106 := Try.func64.trans (congrArg some (by kernel_rfl))
  f213 := Try.func79.trans (congrArg some (by kernel_rfl))
  f265 := Try.func100.trans (congrArg some (by kernel_rfl))
  t3 := Try.underlying3
  a3 := Try.isAgg3
  z3 := Try.sizeOf3
  v3 := Try.zeroValue3
  t9 := Try.underlying9
  a9 := Try.isAgg9
  z9 := Try.sizeOf9
  v9 := Try.zeroValue9 }
open Go.RowKit in
/-- laid -/
theorem Try.strings_Compare (a b : ByteArray) (w : World) :
    Calls Try.prog 64 #[.string a, .string b] w fun e w' => e = .returned (.int .i64 (Lib.compareBytes a.data.toList b.data.toList)) ∧ w' = w := Any.strings_Compare Try.laysStrCmp a b w
end Go.Proofs
end
section
/- The walks of cross.New, Rows, Add. -/
namespace Go.Sl
open Go Go.RowKit
def cfPair (x y : SPair) : Int := orI (cmpS x.s y.s) (cmpS x.b y.b)
theorem lt_pair (x y : SPair) : Go.Proofs.ltOf cfPair x y = ordStr2.lt (pkey x) (pkey y) := by
  unfold Go.Proofs.ltOf cfPair orI
  simp only [ordStr2, pkey]
  rw [decide_eq_decide]
  have h1 : cmpS x.s y.s = 0 ↔ x.s = y.s := cmpS_eq
  have r1 : cmpS x.s y.s = -1 ∨ cmpS x.s y.s = 0 ∨ cmpS x.s y.s = 1 := cmpB_rng _ _
  have r2 : cmpS x.b y.b = -1 ∨ cmpS x.b y.b = 0 ∨ cmpS x.b y.b = 1 := cmpB_rng _ _
  rw [← h1]
  split <;> omega
end Go.Sl
namespace Go.Proofs.Ythcapomobidnbaa
open Go.RowKit Go.Sl Go.Sort
set_option maxHeartbeats 2000000
set_option maxRecDepth 100000
theorem crossNew_calls (w : World) : Calls Try.prog 38 #[] w fun e w' => ∃ h b, e = .returned (.pointer (some ⟨b, 0, none⟩)) ∧ Pt (kOne kPair) 100 h b [] ∧ Upd Hp.none h w w' := by
  go_enter Try.func38, Try.ntmps38
  go_wp2
  go_ret
  exact ⟨_, _, rfl, ⟨_, Hp.one_self _ _, none, 0, rfl, Ow.none _ _⟩, Upd.newBlock w _⟩
theorem crossRows_calls (b : Nat) (l : List SPair) (h : Hp) (w : World) (hs : h.sub w) (p : Pt (kOne kPair) 100 h b l) (hl : l.length ≤ 1000000) :
    Calls Try.prog 40 #[.pointer (some ⟨b, 0, none⟩)] w fun e w' => ∃ C cap h', e = .returned (.slice C l.length cap) ∧ Ow kPair h' C cap l ∧ Upd Hp.none h' w w' := by
  obtain ⟨A, ca, hb, hc, ow, _⟩ := p.one hs
  have CC := clone_crow A ca l (h.del b) w (hs.del b) ow.sl hl
  go_enter Try.func40, Try.ntmps40
  go_wp2_with fail
  refine CC.mono ?_
  rintro e w1 ⟨C, cap, h1, rfl, o1, u1⟩
  go_wp2
  go_ret
  exact ⟨C, cap, h1, rfl, o1, u1⟩
theorem crossSame_calls (x : SPair) (b5 b6 : Nat) (s b : ByteArray) (W : World) (c5 : W.cell? ⟨b5, 0, none⟩ = some (.string s)) (c6 : W.cell? ⟨b6, 0, none⟩ = some (.string b)) :
    Calls Try.prog 58 #[.agg #[.string x.s, .string x.b, .int .i64 x.amt], .pointer (some ⟨b5, 0, none⟩), .pointer (some ⟨b6, 0, none⟩)] W fun e W' => e = .returned (.bool (isP s b x)) ∧ Below W.heap.size W W' := by
  have c5a := fun o => (cell_alloc (o := o) (World.block_lt_of_cell? _ _ c5)).trans c5
  have c6a := fun o => (cell_alloc (o := o) (World.block_lt_of_cell? _ _ c6)).trans c6
  have HI : isP s b x = decide (x.s = s ∧ x.b = b) := rfl
  generalize isP s b x = r at *
  by_cases h1 : x.s = s
  · have t1 : (x.s.toList == s.toList) = true := by rw [h1]; simp
    by_cases h2 : x.b = b
    · have t2 : (x.b.toList == b.toList) = true := by rw [h2]; simp
      have hr : Hid (r = true) := by unfold Hid; rw [HI]; simp [h1, h2]
      clear HI h1 h2
      go_enter Try.func58, Try.ntmps58
      go_wp2
      go_ret
      exact ⟨by rw [hr.out]; rfl, (by repeat (first | exact Below.refl _ _ | apply Below.drew | refine Below.alloc ?_ (by simp) _))⟩
    · have t2 : (x.b.toList == b.toList) = false := beq_eq_false_iff_ne.2 fun e => h2 (tl_inj e)
      have hr : Hid (r = false) := by unfold Hid; rw [HI]; simp [h2]
      clear HI h1 h2
      go_enter Try.func58, Try.ntmps58
      go_wp2
      go_ret
      exact ⟨by rw [hr.out]; rfl, (by repeat (first | exact Below.refl _ _ | apply Below.drew | refine Below.alloc ?_ (by simp) _))⟩
  · have t1 : (x.s.toList == s.toList) = false := beq_eq_false_iff_ne.2 fun e => h1 (tl_inj e)
    have hr : Hid (r = false) := by unfold Hid; rw [HI]; simp [h1]
    clear HI h1
    go_enter Try.func58, Try.ntmps58
    go_wp2
    go_ret
    exact ⟨by rw [hr.out]; rfl, (by repeat (first | exact Below.refl _ _ | apply Below.drew | refine Below.alloc ?_ (by simp) _))⟩
theorem crossCmp_calls (x y : SPair) (W : World) : Calls Try.prog 62 #[.agg #[.string x.s, .string x.b, .int .i64 x.amt], .agg #[.string y.s, .string y.b, .int .i64 y.amt]] W fun e W' => e = .returned (.int .i64 (cfPair x y)) ∧ ∃ q os', W' = grow (W.drewN q) os' := by
  have HC : Hid (cfPair x y = orI (cmpS x.s y.s) (cmpS x.b y.b)) := rfl
  generalize cfPair x y = r at *
  have C1 : ∀ W : World, Calls Try.prog 64 #[.string x.s, .string y.s] W fun e w' => e = .returned (.int .i64 (cmpS x.s y.s)) ∧ W = w' := fun W => (Try.strings_Compare x.s y.s W).mono fun _ _ ⟨a, b⟩ => ⟨a, b.symm⟩
  have C2 : ∀ W : World, Calls Try.prog 64 #[.string x.b, .string y.b] W fun e w' => e = .returned (.int .i64 (cmpS x.b y.b)) ∧ W = w' := fun W => (Try.strings_Compare x.b y.b W).mono fun _ _ ⟨a, b⟩ => ⟨a, b.symm⟩
  generalize cmpS x.s y.s = a at *
  generalize cmpS x.b y.b = b at *
  go_enter Try.func62, Try.ntmps62
  go_wp2
  go_region_held3 (fun w' => w'.cell? ⟨W.heap.size, 0, none⟩ = some (.string x.s) ∧ w'.cell? ⟨W.heap.size, 1, none⟩ = some (.string x.b) ∧ w'.cell? ⟨W.heap.size + 1, 0, none⟩ = some (.string y.s) ∧ w'.cell? ⟨W.heap.size + 1, 1, none⟩ = some (.string y.b))
    (go_keep)
    (first
      | (go_at_call 64; ((with_reducible refine (C1 _).mono ?_)); rintro e w' ⟨rfl, rfl⟩)
      | (go_at_call 64; ((with_reducible refine (C2 _).mono ?_)); rintro e w' ⟨rfl, rfl⟩)
      | (go_at_call 63; have OC := fun (V : World) (h0 : V.heap[W.heap.size + 1 + 1]? = some (.cells #[.int .i64 a, .int .i64 b] 3)) => or_calls (W.heap.size + 1 + 1) a b V (by rw [cell_of_row V _ 0 _ _ _ h0]; rfl) (by rw [cell_of_row V _ 1 _ _ _ h0]; rfl); refine (OC _ (by rw [show ∀ V : World, V.drew.heap = V.heap from fun _ => rfl]; exact heap_new_at (by simp))).mono ?_; rintro e w' ⟨rfl, rfl⟩)
      | fail)
  go_wp2
  go_ret
  exact ⟨by rw [HC.out]; rfl, 1, _, by rw [alloc_eq_grow, alloc_eq_grow, alloc_eq_grow]; simp only [grow_grow, drew_grow]; rfl⟩
end Go.Proofs.Ythcapomobidnbaa
end
section
/- The walk of cross.Add. -/
namespace Go.Proofs.Ythcapomobidnbaa
open Go.RowKit Go.Sl Go.Sort
set_option maxHeartbeats 4000000
set_option maxRecDepth 100000
/-- What Add returns. -/
def CrAns (b : Nat) (l : List SPair) (s bb : ByteArray) (n : Int) (h : Hp) (w : World) (e : Ending) (w' : World) : Prop :=
  ∃ h', e = .returned (.int .i64 (addE l s bb n)) ∧ Pt (kOne kPair) 100 h' b (addR l s bb n) ∧ Upd h h' w w'
theorem CrAns.no {b : Nat} {l : List SPair} {s bb : ByteArray} {n : Int} {h : Hp} {w w' : World} {E : Int} (hE : addE l s bb n = E) (h0 : E ≠ 0) (hp : Pt (kOne kPair) 100 h b l) (hs : h.sub w) (hb : Below w.heap.size w w') :
    CrAns b l s bb n h w (.returned (.int .i64 E)) w' := ⟨h, by rw [hE], by unfold addR; rw [hE, if_neg h0]; exact hp, Upd.stay hs hb⟩
theorem crossAdd_calls (b : Nat) (l : List SPair) (s bb : ByteArray) (n : Int) (h : Hp) (w : World) (hs : h.sub w) (hp : Pt (kOne kPair) 100 h b l) (g : GoodP l) :
    Calls Try.prog 39 #[.pointer (some ⟨b, 0, none⟩), .string s, .string bb, .int .i64 n] w (CrAns b l s bb n h w) := by
  obtain ⟨A, ca, hb, hc, ow, hfz⟩ := hp.one hs
  have hlt : b < w.heap.size := World.block_lt_of_cell? _ _ hc
  have MC := fun W => money_calls n W
  have EW := ((Env.start w).alloc (.cells #[.string s] 9)).alloc (.cells #[.string bb] 9)
  simp at EW
  have HE : Hid (addE l s bb n = if (noS s || (noS bb || (decide (s = bb) || !money n))) = true then 1 else if (decide (hasP l s bb + n < 0) || !money (hasP l s bb + n)) = true then 6 else if 8 < (nextP l s bb (hasP l s bb + n)).length then 5 else 0) := rfl
  cases e0 : s.toList.isEmpty with
  | true =>
    have HE1 : Hid (addE l s bb n = 1) := by unfold Hid; rw [HE.out, if_pos (by simp [noS, e0])]
    have e0' : s.toList = [] := by simpa using e0
    clear MC
    go_enter Try.func39, Try.ntmps39
    go_wp2
    go_ret
    exact .no HE1.out (by decide) hp hs EW.low
  | false =>
  cases e1 : bb.toList.isEmpty with
  | true =>
    have HE1 : Hid (addE l s bb n = 1) := by unfold Hid; rw [HE.out, if_pos (by simp [noS, e1])]
    have e1' : bb.toList = [] := by simpa using e1
    clear MC
    go_enter Try.func39, Try.ntmps39
    go_wp2
    go_ret
    exact .no HE1.out (by decide) hp hs EW.low
  | false =>
  by_cases e2 : s = bb
  · have HE1 : Hid (addE l s bb n = 1) := by unfold Hid; rw [HE.out, if_pos (by simp [e2])]
    have t2 : (s.toList == bb.toList) = true := by rw [e2]; simp
    clear MC e2
    go_enter Try.func39, Try.ntmps39
    go_wp2
    go_ret
    exact .no HE1.out (by decide) hp hs EW.low
  have t2 : (s.toList == bb.toList) = false := beq_eq_false_iff_ne.2 fun e => e2 (tl_inj e)
  cases e3 : money n with
  | false =>
    have HE1 : Hid (addE l s bb n = 1) := by unfold Hid; rw [HE.out, if_pos (by simp [e3])]
    rw [e3] at MC
    clear e2 e3
    go_enter Try.func39, Try.ntmps39
    go_wp2_with (go_at_call 45; refine (MC _).mono ?_; rintro e w' ⟨rfl, rfl⟩)
    go_ret
    exact .no HE1.out (by decide) hp hs EW.low
  | true =>
  have HE2 : Hid (addE l s bb n = if (decide (hasP l s bb + n < 0) || !money (hasP l s bb + n)) = true then 6 else if 8 < (nextP l s bb (hasP l s bb + n)).length then 5 else 0) := by
    unfold Hid; rw [HE.out, if_neg (by simp [noS, e0, e1, e2, e3])]
  obtain ⟨n1, n2⟩ : -100000000000 ≤ n ∧ n ≤ 100000000000 := by simpa [money] using e3
  obtain ⟨g1, g2⟩ := hasP_bd g s bb
  rw [e3] at MC
  clear HE e2 e3
  have eg : ∀ args w, (callFunc 58 args).run Try.prog w = .ok (.enter 58 args) w := enters_of Try.func58 (by kernel_rfl) rfl
  have eg2 : ∀ args w, (callFunc 62 args).run Try.prog w = .ok (.enter 62 args) w := enters_of Try.func62 (by kernel_rfl) rfl
  have KC : ∀ (W : World) (k : List Hp), Env w W (Hp.box w.heap.size [.string s] 9 :: Hp.box (w.heap.size + 1) [.string bb] 9 :: k) → W.cell? ⟨w.heap.size, 0, none⟩ = some (.string s) ∧ W.cell? ⟨w.heap.size + 1, 0, none⟩ = some (.string bb) := fun W k E => ⟨E.cell 0 rfl 0 rfl, E.cell 1 rfl 0 rfl⟩
  have IC := fun (W : World) (k : List Hp) (E : Env w W (Hp.box w.heap.size [.string s] 9 :: Hp.box (w.heap.size + 1) [.string bb] 9 :: k)) =>
    indexFunc_crow 58 #[.pointer (some ⟨w.heap.size, 0, none⟩), .pointer (some ⟨w.heap.size + 1, 0, none⟩)] eg (isP s bb) A ca l (h.del b) W ((hs.del b).of_below E.low) ow.sl
      (fun x W' hW => crossSame_calls x w.heap.size (w.heap.size + 1) s bb W' (KC W' k (E.below hW)).1 (KC W' k (E.below hW)).2)
  have DC := fun (W : World) (E : Env w W [Hp.box w.heap.size [.string s] 9, Hp.box (w.heap.size + 1) [.string bb] 9]) (C : Option Addr) (cc : Nat) (w1 : World) (hr : Hp) (E1 : Env w w1 [Hp.box w.heap.size [.string s] 9, Hp.box (w.heap.size + 1) [.string bb] 9, hr]) (o : Ow kPair hr C cc l) =>
    deleteFunc_crow 58 #[.pointer (some ⟨w.heap.size, 0, none⟩), .pointer (some ⟨w.heap.size + 1, 0, none⟩)] eg (isP s bb) C cc l hr w1 (E1.sub 2 rfl) o (by have := g.len; omega)
      (fun x W' k u => crossSame_calls x w.heap.size (w.heap.size + 1) s bb W' (KC W' [k] (E1.upd 2 rfl u)).1 (KC W' [k] (E1.upd 2 rfl u)).2)
  have hl8 := g.len
  have lm := ow.small
  rcases hasP_idx l s bb with ⟨hi, hv⟩ | ⟨i, x, hx, hi, hv⟩
  · rw [hi] at IC
    have hV : hasP l s bb + n = n := by rw [hv]; omega
    rw [hV] at HE2
    have HRR : Hid (addE l s bb n = 0 → addR l s bb n = isort ordStr2 pkey (nextP l s bb (n))) := fun h => by unfold addR; rw [if_pos h, hV]
    have hd := nextP_dist g.rise s bb (n)
    have MV := fun W => money_calls (n) W
    clear hV hi hv
    go_enter Try.func39, Try.ntmps39
    go_wp2_with (go_at_call 45; refine (MC _).mono ?_; rintro e w' ⟨rfl, rfl⟩)
    refine (IC _ [] EW).mono ?_
    rintro e w1 ⟨rfl, b1⟩
    have E1 := EW.below b1
    clear IC
    have hc1 := (E1.low.cell (p := ⟨b, 0, none⟩) hlt).trans hc
    skip
    by_cases h0 : n < 0
    · have HE6 : Hid (addE l s bb n = 6) := by unfold Hid; rw [HE2.out, if_pos (by simp [h0])]
      have t3 : decide (n < 0) = true := decide_eq_true h0
      clear MV DC
      go_wp2
      go_ret
      exact .no HE6.out (by decide) hp hs E1.low
    have t3 : decide (n < 0) = false := decide_eq_false h0
    cases e4 : money (n) with
    | false =>
      have HE6 : Hid (addE l s bb n = 6) := by unfold Hid; rw [HE2.out, if_pos (by simp [e4])]
      rw [e4] at MV
      clear e4 DC
      go_wp2_with (go_at_call 45; refine (MV _).mono ?_; rintro e w' ⟨rfl, rfl⟩)
      go_ret
      exact .no HE6.out (by decide) hp hs E1.low
    | true =>
    have HE3 : Hid (addE l s bb n = if 8 < (nextP l s bb (n)).length then 5 else 0) := by
      unfold Hid; rw [HE2.out, if_neg (by simp [e4]; omega)]
    rw [e4] at MV
    clear e4 HE2
    go_wp2_with (go_at_call 45; refine (MV _).mono ?_; rintro e w' ⟨rfl, rfl⟩)
    refine (crossRows_calls b l h _ (hs.of_below E1.low) hp (by omega)).mono ?_
    rintro e w2 ⟨C, cc, hr, rfl, or, ur⟩
    have E2 := E1.new ur
    simp at E2
    clear hc1
    go_wp2_with fail
    refine (DC _ EW C cc w2 hr E2 or).mono ?_
    rintro e w3 ⟨h3, rfl, o3, u3⟩
    have E3 := E2.upd 2 rfl u3
    simp at E3
    have HN : Hid (nextP l s bb (n) = (l.filter fun x => !isP s bb x) ++ (if n = 0 then [] else [⟨s, bb, n⟩])) := rfl
    have hfl := List.length_filter_le (fun x => !isP s bb x) l
    generalize (l.filter fun x => !isP s bb x) = fl at *
    generalize nextP l s bb (n) = NX at *
    obtain ⟨k0, k1⟩ := KC _ _ E3
    have lfl := o3.small
    clear DC ur u3 MV or
    by_cases v0 : n = 0
    · have t4 : (n != 0) = false := by simp [v0]
      rw [if_pos v0, List.append_nil] at HN
      clear v0
      rw [HN.out] at HE3 HRR hd
      clear HN
      have t5 : decide (8 < (fl.length : Int)) = false := by simp; omega
      have HE0 : Hid (addE l s bb n = 0) := by unfold Hid; rw [HE3.out, if_neg (by omega)]
      have HRe := Lib.hid (HRR.out HE0.out)
      have hil2 := isort_length hd
      have SC := sortFunc_crow ordStr2 pkey cfPair lt_pair 62 eg2 crossCmp_calls C cc fl h3 w3 (E3.sub 2 rfl) o3 hd (by omega)
      generalize isort ordStr2 pkey fl = so at *
      have hil2 := Lib.hid hil2
      clear HE3 HRR
      go_wp2_with fail
      refine SC.mono ?_
      rintro e w5 ⟨h5, rfl, o5, u5⟩
      have E5 := E3.upd 2 rfl u5
      simp at E5
      have hc5 := (E5.low.cell (p := ⟨b, 0, none⟩) hlt).trans hc
      have hf5 := fun n => (E5.low.frozen (p := ⟨b, n, none⟩) hlt).trans (hfz n)
      go_wp2
      obtain ⟨UF, hn3⟩ := Upd.field (v := .slice C fl.length cc) 0 hb hs (Hp.none_le _) (E5.made (h := h5) (by simp))
      go_ret
      exact ⟨_, by rw [HE0.out]; rfl, ⟨_, Hp.put_self, C, cc, by rw [HRe.out, hil2.out]; rfl, by rw [Hp.put_del hn3, HRe.out]; exact o5⟩, UF⟩
    have t4 : (n != 0) = true := by simpa using v0
    rw [if_neg v0] at HN
    clear v0
    have HNl : Hid (NX.length = fl.length + 1) := by unfold Hid; rw [HN.out, List.length_append]; rfl
    rw [HNl.out] at HE3
    by_cases h8 : 8 < fl.length + 1
    · have t5 : decide (8 < (fl.length : Int) + 1) = true := by simp; omega
      have HE5 : Hid (addE l s bb n = 5) := by unfold Hid; rw [HE3.out, if_pos h8]
      clear HE3 HRR
      go_wp2_with (at_builtin; refine wpList_eapp 2 ⟨s, bb, n⟩ Try.underlying75 info_crow (by repeat (first | (with_reducible exact E3) | (with_reducible apply Env.drew) | (with_reducible apply Env.drewN) | (with_reducible apply Env.alloc'))) (by rfl) o3 fl.length rfl (by rfl) (by rfl) rfl 1 (by rfl) (by rfl) (heap_new_at (by simp)) (by rfl) (by omega) (by omega) ?_; intro C4 cc4 w4 h4 o4 E4)
      go_ret
      exact .no HE5.out (by decide) hp hs E4.low
    · have t5 : decide (8 < (fl.length : Int) + 1) = false := by simp; omega
      have HE0 : Hid (addE l s bb n = 0) := by unfold Hid; rw [HE3.out, if_neg h8]
      have HRe := Lib.hid (HRR.out HE0.out)
      have hil2 := isort_length hd
      clear HE3 HRR
      go_wp2_with (at_builtin; refine wpList_eapp 2 ⟨s, bb, n⟩ Try.underlying75 info_crow (by repeat (first | (with_reducible exact E3) | (with_reducible apply Env.drew) | (with_reducible apply Env.drewN) | (with_reducible apply Env.alloc'))) (by rfl) o3 fl.length rfl (by rfl) (by rfl) rfl 1 (by rfl) (by rfl) (heap_new_at (by simp)) (by rfl) (by omega) (by omega) ?_; intro C4 cc4 w4 h4 o4 E4)
      simp at E4
      rw [← HN.out] at o4
      have SC := sortFunc_crow ordStr2 pkey cfPair lt_pair 62 eg2 crossCmp_calls C4 cc4 NX h4 w4 (E4.sub 2 rfl) o4 hd (by rw [HNl.out]; omega)
      rw [HNl.out] at SC hil2
      generalize isort ordStr2 pkey NX = so at *
      have hil2 := Lib.hid hil2
      refine SC.mono ?_
      rintro e w5 ⟨h5, rfl, o5, u5⟩
      have E5 := E4.upd 2 rfl u5
      simp at E5
      have hc5 := (E5.low.cell (p := ⟨b, 0, none⟩) hlt).trans hc
      have hf5 := fun n => (E5.low.frozen (p := ⟨b, n, none⟩) hlt).trans (hfz n)
      go_wp2
      obtain ⟨UF, hn3⟩ := Upd.field (v := .slice C4 (fl.length + 1) cc4) 0 hb hs (Hp.none_le _) (E5.made (h := h5) (by simp))
      go_ret
      exact ⟨_, by rw [HE0.out]; rfl, ⟨_, Hp.put_self, C4, cc4, by rw [HRe.out, hil2.out]; rfl, by rw [Hp.put_del hn3, HRe.out]; exact o5⟩, UF⟩
  · rw [hi] at IC
    have hV : hasP l s bb + n = x.amt + n := by rw [hv]
    rw [hv] at g1 g2
    have hil : i < l.length := (List.getElem?_eq_some_iff.1 hx).1
    have i1 : (0 : Int) ≤ (i : Int) := by omega
    have i2 : (i : Int) < (l.length : Int) := by omega
    have hxx := Lib.hid hx
    clear hx
    rw [hV] at HE2
    have HRR : Hid (addE l s bb n = 0 → addR l s bb n = isort ordStr2 pkey (nextP l s bb (x.amt + n))) := fun h => by unfold addR; rw [if_pos h, hV]
    have hd := nextP_dist g.rise s bb (x.amt + n)
    have MV := fun W => money_calls (x.amt + n) W
    clear hV hi hv
    go_enter Try.func39, Try.ntmps39
    go_wp2_with (go_at_call 45; refine (MC _).mono ?_; rintro e w' ⟨rfl, rfl⟩)
    refine (IC _ [] EW).mono ?_
    rintro e w1 ⟨rfl, b1⟩
    have E1 := EW.below b1
    clear IC
    have hc1 := (E1.low.cell (p := ⟨b, 0, none⟩) hlt).trans hc
    obtain ⟨bx, ox, rfl, c1, c2, c3⟩ := ow.sl.pair ((hs.del b).of_below E1.low) hxx
    by_cases h0 : x.amt + n < 0
    · have HE6 : Hid (addE l s bb n = 6) := by unfold Hid; rw [HE2.out, if_pos (by simp [h0])]
      have t3 : decide (x.amt + n < 0) = true := decide_eq_true h0
      clear MV DC
      go_wp2
      go_ret
      exact .no HE6.out (by decide) hp hs E1.low
    have t3 : decide (x.amt + n < 0) = false := decide_eq_false h0
    cases e4 : money (x.amt + n) with
    | false =>
      have HE6 : Hid (addE l s bb n = 6) := by unfold Hid; rw [HE2.out, if_pos (by simp [e4])]
      rw [e4] at MV
      clear e4 DC
      go_wp2_with (go_at_call 45; refine (MV _).mono ?_; rintro e w' ⟨rfl, rfl⟩)
      go_ret
      exact .no HE6.out (by decide) hp hs E1.low
    | true =>
    have HE3 : Hid (addE l s bb n = if 8 < (nextP l s bb (x.amt + n)).length then 5 else 0) := by
      unfold Hid; rw [HE2.out, if_neg (by simp [e4]; omega)]
    rw [e4] at MV
    clear e4 HE2
    go_wp2_with (go_at_call 45; refine (MV _).mono ?_; rintro e w' ⟨rfl, rfl⟩)
    refine (crossRows_calls b l h _ (hs.of_below E1.low) hp (by omega)).mono ?_
    rintro e w2 ⟨C, cc, hr, rfl, or, ur⟩
    have E2 := E1.new ur
    simp at E2
    clear hc1
    go_wp2_with fail
    refine (DC _ EW C cc w2 hr E2 or).mono ?_
    rintro e w3 ⟨h3, rfl, o3, u3⟩
    have E3 := E2.upd 2 rfl u3
    simp at E3
    have HN : Hid (nextP l s bb (x.amt + n) = (l.filter fun x => !isP s bb x) ++ (if x.amt + n = 0 then [] else [⟨s, bb, x.amt + n⟩])) := rfl
    have hfl := List.length_filter_le (fun x => !isP s bb x) l
    generalize (l.filter fun x => !isP s bb x) = fl at *
    generalize nextP l s bb (x.amt + n) = NX at *
    obtain ⟨k0, k1⟩ := KC _ _ E3
    have lfl := o3.small
    clear DC ur u3 MV or
    by_cases v0 : x.amt + n = 0
    · have t4 : (x.amt + n != 0) = false := by simp [v0]
      rw [if_pos v0, List.append_nil] at HN
      clear v0
      rw [HN.out] at HE3 HRR hd
      clear HN
      have t5 : decide (8 < (fl.length : Int)) = false := by simp; omega
      have HE0 : Hid (addE l s bb n = 0) := by unfold Hid; rw [HE3.out, if_neg (by omega)]
      have HRe := Lib.hid (HRR.out HE0.out)
      have hil2 := isort_length hd
      have SC := sortFunc_crow ordStr2 pkey cfPair lt_pair 62 eg2 crossCmp_calls C cc fl h3 w3 (E3.sub 2 rfl) o3 hd (by omega)
      generalize isort ordStr2 pkey fl = so at *
      have hil2 := Lib.hid hil2
      clear HE3 HRR
      go_wp2_with fail
      refine SC.mono ?_
      rintro e w5 ⟨h5, rfl, o5, u5⟩
      have E5 := E3.upd 2 rfl u5
      simp at E5
      have hc5 := (E5.low.cell (p := ⟨b, 0, none⟩) hlt).trans hc
      have hf5 := fun n => (E5.low.frozen (p := ⟨b, n, none⟩) hlt).trans (hfz n)
      go_wp2
      obtain ⟨UF, hn3⟩ := Upd.field (v := .slice C fl.length cc) 0 hb hs (Hp.none_le _) (E5.made (h := h5) (by simp))
      go_ret
      exact ⟨_, by rw [HE0.out]; rfl, ⟨_, Hp.put_self, C, cc, by rw [HRe.out, hil2.out]; rfl, by rw [Hp.put_del hn3, HRe.out]; exact o5⟩, UF⟩
    have t4 : (x.amt + n != 0) = true := by simpa using v0
    rw [if_neg v0] at HN
    clear v0
    have HNl : Hid (NX.length = fl.length + 1) := by unfold Hid; rw [HN.out, List.length_append]; rfl
    rw [HNl.out] at HE3
    by_cases h8 : 8 < fl.length + 1
    · have t5 : decide (8 < (fl.length : Int) + 1) = true := by simp; omega
      have HE5 : Hid (addE l s bb n = 5) := by unfold Hid; rw [HE3.out, if_pos h8]
      clear HE3 HRR
      go_wp2_with (at_builtin; refine wpList_eapp 2 ⟨s, bb, x.amt + n⟩ Try.underlying75 info_crow (by repeat (first | (with_reducible exact E3) | (with_reducible apply Env.drew) | (with_reducible apply Env.drewN) | (with_reducible apply Env.alloc'))) (by rfl) o3 fl.length rfl (by rfl) (by rfl) rfl 1 (by rfl) (by rfl) (heap_new_at (by simp)) (by rfl) (by omega) (by omega) ?_; intro C4 cc4 w4 h4 o4 E4)
      go_ret
      exact .no HE5.out (by decide) hp hs E4.low
    · have t5 : decide (8 < (fl.length : Int) + 1) = false := by simp; omega
      have HE0 : Hid (addE l s bb n = 0) := by unfold Hid; rw [HE3.out, if_neg h8]
      have HRe := Lib.hid (HRR.out HE0.out)
      have hil2 := isort_length hd
      clear HE3 HRR
      go_wp2_with (at_builtin; refine wpList_eapp 2 ⟨s, bb, x.amt + n⟩ Try.underlying75 info_crow (by repeat (first | (with_reducible exact E3) | (with_reducible apply Env.drew) | (with_reducible apply Env.drewN) | (with_reducible apply Env.alloc'))) (by rfl) o3 fl.length rfl (by rfl) (by rfl) rfl 1 (by rfl) (by rfl) (heap_new_at (by simp)) (by rfl) (by omega) (by omega) ?_; intro C4 cc4 w4 h4 o4 E4)
      simp at E4
      rw [← HN.out] at o4
      have SC := sortFunc_crow ordStr2 pkey cfPair lt_pair 62 eg2 crossCmp_calls C4 cc4 NX h4 w4 (E4.sub 2 rfl) o4 hd (by rw [HNl.out]; omega)
      rw [HNl.out] at SC hil2
      generalize isort ordStr2 pkey NX = so at *
      have hil2 := Lib.hid hil2
      refine SC.mono ?_
      rintro e w5 ⟨h5, rfl, o5, u5⟩
      have E5 := E4.upd 2 rfl u5
      simp at E5
      have hc5 := (E5.low.cell (p := ⟨b, 0, none⟩) hlt).trans hc
      have hf5 := fun n => (E5.low.frozen (p := ⟨b, n, none⟩) hlt).trans (hfz n)
      go_wp2
      obtain ⟨UF, hn3⟩ := Upd.field (v := .slice C4 (fl.length + 1) cc4) 0 hb hs (Hp.none_le _) (E5.made (h := h5) (by simp))
      go_ret
      exact ⟨_, by rw [HE0.out]; rfl, ⟨_, Hp.put_self, C4, cc4, by rw [HRe.out, hil2.out]; rfl, by rw [Hp.put_del hn3, HRe.out]; exact o5⟩, UF⟩
end Go.Proofs.Ythcapomobidnbaa
end
section
/- The asset of pairs, plain. -/
namespace Go.Sl
open Go Go.RowKit
def assOk (x : SPair) (r : Int) : Bool := rightRate r && (!decide (x.amt < 0) && money x.amt)
def assAll : List SPair → List Int → Bool
  | b :: bs, r :: rs => assOk b r && assAll bs rs
  | _, _ => true
def assS : List SPair → List Int → Int
  | b :: bs, r :: rs => ofVal b.amt r + assS bs rs
  | _, _ => 0
def assE (bs : List SPair) (rs : List Int) : Int :=
  if rs.length ≠ bs.length then 1
  else if assAll bs rs = false then 1
  else if money (assS bs rs) = false then 6 else 0
def assN (bs : List SPair) (rs : List Int) : Int := if assE bs rs = 0 then assS bs rs else 0
theorem assS_snoc {b : SPair} {r : Int} : ∀ {bs : List SPair} {rs : List Int}, bs.length = rs.length → assS (bs ++ [b]) (rs ++ [r]) = assS bs rs + ofVal b.amt r
  | [], [], _ => by simp [assS]
  | x :: bs, y :: rs, h => by
    have := assS_snoc (b := b) (r := r) (bs := bs) (rs := rs) (by simpa using h)
    simp only [List.cons_append, assS, this]; omega
  | [], _ :: _, h => by simp at h
  | _ :: _, [], h => by simp at h
theorem assAll_snoc {b : SPair} {r : Int} : ∀ {bs : List SPair} {rs : List Int}, bs.length = rs.length → assAll (bs ++ [b]) (rs ++ [r]) = (assAll bs rs && assOk b r)
  | [], [], _ => by simp [assAll]
  | x :: bs, y :: rs, h => by
    have := assAll_snoc (b := b) (r := r) (bs := bs) (rs := rs) (by simpa using h)
    simp only [List.cons_append, assAll, this, Bool.and_assoc]
  | [], _ :: _, h => by simp at h
  | _ :: _, [], h => by simp at h
theorem assS_bd : ∀ (bs : List SPair) (rs : List Int), -(bs.length * 4000000000001) ≤ assS bs rs ∧ assS bs rs ≤ bs.length * 4000000000001
  | b :: bs, r :: rs => by
    have h1 := assS_bd bs rs
    have h2 := ofVal_bd b.amt r
    simp only [assS, List.length_cons]; omega
  | [], _ => by simp [assS]
  | _ :: _, [] => by simp only [assS, List.length_cons]; omega
theorem assAll_no {b : SPair} {r : Int} : ∀ {bs : List SPair} {rs : List Int} {j : Nat}, bs[j]? = some b → rs[j]? = some r → assOk b r = false → assAll bs rs = false
  | x :: bs, y :: rs, 0, h1, h2, h => by
    simp at h1 h2; subst h1; subst h2
    simp [assAll, h]
  | x :: bs, y :: rs, j + 1, h1, h2, h => by
    have := assAll_no (bs := bs) (rs := rs) (j := j) (by simpa using h1) (by simpa using h2) h
    simp [assAll, this]
  | [], _, _, h1, _, _ => by simp at h1
  | _ :: _, [], _, _, h2, _ => by simp at h2
end Go.Sl
end
section
/- The walk of cross.Asset. -/
namespace Go.Proofs.Ythcapomobidnbaa
open Go.RowKit Go.Sl
set_option maxHeartbeats 2000000
set_option maxRecDepth 100000
theorem asset_calls (A D : Option Addr) (ca cd : Nat) (xs : List SPair) (rs : List Int) (h p : Hp) (w : World) (hs : h.sub w) (ps : p.sub w) (sx : Sl kPair h A ca xs) (so : Sl kInt p D cd rs) (hx : xs.length ≤ 1000) :
    Calls Try.prog 36 #[.slice A xs.length ca, .slice D rs.length cd] w fun e w' => e = .returned (.tuple #[.int .i64 (assN xs rs), .int .i64 (assE xs rs)]) ∧ Below w.heap.size w w' := by
  have m3 := so.small
  go_enter Try.func36, Try.ntmps36
  by_cases hlen : rs.length = xs.length
  · have L1 := Lib.hid hlen
    have t1 : ((rs.length : Int) != (xs.length : Int)) = false := by simp [hlen]
    have HE : Hid (assE xs rs = if assAll xs rs = false then 1 else if money (assS xs rs) = false then 6 else 0) := by
      unfold Hid assE; rw [if_neg (by omega)]
    clear hlen
    go_wp2
    go_loopw [6, 18] (fun s i wr => ∃ (j : Nat) (M : Int), j ≤ xs.length ∧ i = .int .i64 j ∧ s = .int .i64 M ∧ Hid (assAll (xs.take j) (rs.take j) = true) ∧ Hid (M = assS (xs.take j) (rs.take j)) ∧ Below w.heap.size w wr) (fun _ i _ => xs.length - (intOf i).toNat)
    case atStart => exact ⟨0, 0, by omega, rfl, rfl, rfl, rfl, Below.refl _ _⟩
    case round =>
      obtain ⟨j, M, hj, rfl, rfl, ha, hM, hb⟩ := hrel
      have hb1 := assS_bd (xs.take j) (rs.take j)
      rw [← hM.out, List.length_take] at hb1
      have HB : -4000000000001000 ≤ M ∧ M ≤ 4000000000001000 := by omega
      clear hb1
      obtain ⟨q1, q2⟩ := HB
      by_cases hlt : j < xs.length
      · obtain ⟨x, hxx⟩ := some_of_lt hlt
        obtain ⟨r, hrr⟩ := some_of_lt (show j < rs.length by rw [L1.out]; exact hlt)
        obtain ⟨b1, o1, rfl, c1, c2, c3⟩ := sx.pair (hs.of_below hb) hxx
        obtain ⟨b2, o2, rfl, d1⟩ := so.int (ps.of_below hb) hrr
        have d1a := fun o => (cell_alloc (o := o) (World.block_lt_of_cell? _ _ d1)).trans d1
        have i1 : (0 : Int) ≤ (j : Int) := by omega
        have i2 : (j : Int) < (xs.length : Int) := by omega
        have i3 : (j : Int) < (rs.length : Int) := by rw [L1.out]; omega
        obtain ⟨q3, q4⟩ := ofVal_bd x.amt r
        have hll : (xs.take j).length = (rs.take j).length := by rw [List.length_take, List.length_take, L1.out]
        have HTa : Hid (assAll (xs.take (j + 1)) (rs.take (j + 1)) = assOk x r) := by
          unfold Hid; rw [take_next hxx, take_next hrr, assAll_snoc hll, ha.out]; rfl
        have HTm : Hid (assS (xs.take (j + 1)) (rs.take (j + 1)) = M + ofVal x.amt r) := by
          unfold Hid; rw [take_next hxx, take_next hrr, assS_snoc hll, hM.out]
        clear hll
        have HNo : assOk x r = false → Hid (assE xs rs = 1) := fun h => by
          unfold Hid; rw [HE.out, if_pos (assAll_no hxx.out hrr.out h)]
        have HO := fun W => of_calls x.amt r W
        have RO := fun W => rateRight_calls r W
        have M1 := fun W => money_calls x.amt W
        have HOK : assOk x r = (rightRate r && (!decide (x.amt < 0) && money x.amt)) := rfl
        generalize ofVal x.amt r = v1 at *
        generalize assOk x r = ok at *
        cases e0 : rightRate r with
        | false =>
          have HE1 := HNo (by rw [HOK, e0]; rfl)
          have HN1 : Hid (assN xs rs = 0) := by unfold Hid assN; rw [HE1.out]; rfl
          rw [e0] at RO
          clear HNo HOK HTa HO e0
          go_wp2_with (first
            | (go_at_call 44; refine (RO _).mono ?_; rintro e w' ⟨rfl, rfl⟩)
            | (go_at_call 45; refine (M1 _).mono ?_; rintro e w' ⟨rfl, rfl⟩))
          go_ret2
          exact ⟨by rw [HE1.out, HN1.out]; rfl, hb.alloc hb.size _⟩
        | true =>
        cases e2 : decide (x.amt < 0) with
        | true =>
          have HE1 := HNo (by rw [HOK, e0, e2]; rfl)
          have HN1 : Hid (assN xs rs = 0) := by unfold Hid assN; rw [HE1.out]; rfl
          rw [e0] at RO
          clear HNo HOK HTa HO e0
          go_wp2_with (first
            | (go_at_call 44; refine (RO _).mono ?_; rintro e w' ⟨rfl, rfl⟩)
            | (go_at_call 45; refine (M1 _).mono ?_; rintro e w' ⟨rfl, rfl⟩))
          go_ret2
          exact ⟨by rw [HE1.out, HN1.out]; rfl, hb.alloc hb.size _⟩
        | false =>
        cases e1 : money x.amt with
        | false =>
          have HE1 := HNo (by rw [HOK, e0, e1, e2]; rfl)
          have HN1 : Hid (assN xs rs = 0) := by unfold Hid assN; rw [HE1.out]; rfl
          rw [e0] at RO
          rw [e1] at M1
          clear HNo HOK HTa HO e0 e1
          go_wp2_with (first
            | (go_at_call 44; refine (RO _).mono ?_; rintro e w' ⟨rfl, rfl⟩)
            | (go_at_call 45; refine (M1 _).mono ?_; rintro e w' ⟨rfl, rfl⟩))
          go_ret2
          exact ⟨by rw [HE1.out, HN1.out]; rfl, hb.alloc hb.size _⟩
        | true =>
        have hf : ok = true := by rw [HOK, e0, e1, e2]; rfl
        rw [e0] at RO
        rw [e1] at M1
        rw [hf] at HTa
        clear HNo HOK e0 e1 hf
        go_wp2_with (first
          | (go_at_call 44; refine (RO _).mono ?_; rintro e w' ⟨rfl, rfl⟩)
          | (go_at_call 45; refine (M1 _).mono ?_; rintro e w' ⟨rfl, rfl⟩))
        obtain ⟨W, hW⟩ : ∃ W : World, W = wr.alloc (.cells #[.string x.s, .string x.b, .int .i64 x.amt] 78) := ⟨_, rfl⟩
        have q0 : W.cell? ⟨wr.heap.size, 0, none⟩ = some (.string x.s) := by rw [hW]; exact cell_new rfl
        have q1 : W.cell? ⟨wr.heap.size, 1, none⟩ = some (.string x.b) := by rw [hW]; exact cell_new rfl
        have q2 : W.cell? ⟨wr.heap.size, 2, none⟩ = some (.int .i64 x.amt) := by rw [hW]; exact cell_new rfl
        have BW : Below wr.heap.size wr W := by rw [hW]; exact (Below.refl _ _).alloc (Nat.le_refl _) _
        rw [← hW]
        clear hW
        replace d1 := (BW.cell (World.block_lt_of_cell? _ _ d1)).trans d1
        have bW := hb.trans (BW.mono hb.size)
        go_quiet ((go_at_call 46; (first | exact quiet_one (HO _) | exact quiet_more (HO _))))
        go_wp2
        go_roundw
        case rel => exact ⟨j + 1, M + v1, by omega, by go_num, by go_num, HTa, HTm.symm, (by repeat (first | (with_reducible exact bW) | (with_reducible apply Below.drew) | (with_reducible apply Below.drN)))⟩
        case measure => simp [intOf]; omega
      · obtain rfl : j = xs.length := by omega
        rw [List.take_length, List.take_of_length_le (Nat.le_of_eq L1.out)] at ha hM
        have M1 := fun W => money_calls M W
        have HE2 : Hid (assE xs rs = if money M = false then 6 else 0) := by unfold Hid; rw [HE.out, ha.out, ← hM.out]; rfl
        cases e1 : money M with
        | false =>
          have HE1 : Hid (assE xs rs = 6) := by unfold Hid; rw [HE2.out, e1]; rfl
          have HN1 : Hid (assN xs rs = 0) := by unfold Hid assN; rw [HE1.out]; rfl
          rw [e1] at M1
          clear e1 HE2
          go_wp2_with (go_at_call 45; refine (M1 _).mono ?_; rintro e w' ⟨rfl, rfl⟩)
          go_ret2
          exact ⟨by rw [HE1.out, HN1.out]; rfl, hb⟩
        | true =>
          have HE1 : Hid (assE xs rs = 0) := by unfold Hid; rw [HE2.out, e1]; rfl
          have HN1 : Hid (assN xs rs = M) := by unfold Hid assN; rw [HE1.out, if_pos rfl, ← hM.out]
          rw [e1] at M1
          clear e1 HE2
          go_wp2_with (go_at_call 45; refine (M1 _).mono ?_; rintro e w' ⟨rfl, rfl⟩)
          go_ret2
          exact ⟨by rw [HE1.out, HN1.out]; rfl, hb⟩
  · have HE : Hid (assE xs rs = 1) := by unfold Hid assE; rw [if_pos (by omega)]
    have HN : Hid (assN xs rs = 0) := by unfold Hid assN; rw [HE.out]; rfl
    have t1 : ((rs.length : Int) != (xs.length : Int)) = true := by simp; omega
    clear hlen
    go_wp2
    go_ret2
    exact ⟨by rw [HE.out, HN.out]; rfl, Below.refl _ _⟩
end Go.Proofs.Ythcapomobidnbaa
end
section
/- The calls of chapter 24, in a body's own memory; law24.wakes. -/
namespace Go.Sl
open Go Go.RowKit
/-- A pair that is put among others. -/
theorem addE_new {l : List SPair} (g : GoodP l) {s b : ByteArray} {n : Int} (h1 : noS s = false) (h2 : noS b = false) (h3 : s ≠ b) (h4 : 0 ≤ hasP l s b + n ∧ hasP l s b + n ≤ 100000000000) (h6 : -100000000000 ≤ n ∧ n ≤ 100000000000) {q : List SPair} (hq : (if hasP l s b + n = 0 then del pkey (s, b) l else put ordStr2 pkey ⟨s, b, hasP l s b + n⟩ l) = q) (h5 : q.length ≤ 8) :
    addE l s b n = 0 ∧ addR l s b n = q := by
  have hp := nextP_put g.rise s b (hasP l s b + n)
  rw [hq] at hp
  have hl := isort_length (nextP_dist g.rise s b (hasP l s b + n))
  rw [hp] at hl
  have m1 : money n = true := by simp [money]; omega
  have m2 : money (hasP l s b + n) = true := by simp [money]; omega
  have hE : addE l s b n = 0 := by
    unfold addE
    rw [if_neg (by simp [h1, h2, h3, m1]), if_neg (by simp [m2]; omega), if_neg (by omega)]
  exact ⟨hE, by unfold addR; rw [if_pos hE, hp]⟩
theorem addE_over {l : List SPair} {s b : ByteArray} {n : Int} (h1 : noS s = false) (h2 : noS b = false) (h3 : s ≠ b) (h6 : -100000000000 ≤ n ∧ n ≤ 100000000000) (h4 : hasP l s b + n < 0) : addE l s b n = 6 ∧ addR l s b n = l := by
  have m1 : money n = true := by simp [money]; omega
  have hE : addE l s b n = 6 := by
    unfold addE
    rw [if_neg (by simp [h1, h2, h3, m1]), if_pos (by simp [h4])]
  exact ⟨hE, by unfold addR; rw [if_neg (by omega)]⟩
theorem addE_arg {l : List SPair} {s b : ByteArray} {n : Int} (h : noS s = true ∨ noS b = true ∨ s = b) : addE l s b n = 1 ∧ addR l s b n = l := by
  have hE : addE l s b n = 1 := by
    unfold addE
    rw [if_pos (by rcases h with h | h | h <;> simp [h])]
  exact ⟨hE, by unfold addR; rw [if_neg (by omega)]⟩
theorem noS_mk (a : Array UInt8) : noS ⟨a⟩ = a.toList.isEmpty := by unfold noS; rw [tl_data]
end Go.Sl
namespace Go.Proofs.Ythcapomobidnbaa
open Go.RowKit Go.Sl
set_option maxHeartbeats 1000000
set_option maxRecDepth 100000
structure Crs (h : Hp) (b : Nat) (l : List SPair) : Prop where
  pt : Pt (kOne kPair) 100 h b l
  good : GoodP l
section
variable {w0 w : World} {l : List Hp} {h k p : Hp} {b : Nat} {xs : List SPair} {rs : List Int} {A D : Option Addr} {ca cd : Nat}
theorem Crs.new (E : Env w0 w l) : Calls Try.prog 38 #[] w fun e w' => ∃ h b, e = .returned (.pointer (some ⟨b, 0, none⟩)) ∧ Crs h b [] ∧ Env w0 w' (l ++ [h]) :=
  (crossNew_calls w).mono fun _ _ ⟨h, b, he, hp, u⟩ => ⟨h, b, he, ⟨hp, GoodP.nil⟩, E.new u⟩
theorem Crs.rows (S : Crs h b xs) (E : Env w0 w l) (i : Nat) (hi : l[i]? = some h) (n : Nat) (hn : xs.length = n) :
    Calls Try.prog 40 #[.pointer (some ⟨b, 0, none⟩)] w fun e w' => ∃ C cap h', e = .returned (.slice C n cap) ∧ Ow kPair h' C cap xs ∧ Env w0 w' (l ++ [h']) := by
  subst hn
  exact (crossRows_calls b xs h w (E.sub i hi) S.pt (by have := S.good.len; omega)).mono fun _ _ ⟨C, cap, h', he, ho, u⟩ => ⟨C, cap, h', he, ho, E.new u⟩
theorem Crs.add (S : Crs h b xs) (E : Env w0 w l) (i : Nat) (hi : l[i]? = some h) (s bb : ByteArray) (n : Int) {q : Int} {ys : List SPair} (hE : addE xs s bb n = q ∧ addR xs s bb n = ys) :
    Calls Try.prog 39 #[.pointer (some ⟨b, 0, none⟩), .string s, .string bb, .int .i64 n] w fun e w' => ∃ h', e = .returned (.int .i64 q) ∧ Crs h' b ys ∧ Env w0 w' (l.set i h') := by
  obtain ⟨h1, h2⟩ := hE
  subst h1
  subst h2
  exact (crossAdd_calls b xs s bb n h w (E.sub i hi) S.pt S.good).mono fun _ _ ⟨h', he, hp, u⟩ => ⟨h', he, ⟨hp, S.good.add s bb n⟩, E.upd i hi u⟩
theorem Crs.asset (E : Env w0 w l) (sx : Sl kPair k A ca xs) (ks : k.sub w) (so : Sl kInt p D cd rs) (ps : p.sub w) (hx : xs.length ≤ 1000) (n m : Nat) (hn : xs.length = n) (hm : rs.length = m) {N Er : Int} (hN : assN xs rs = N) (hE : assE xs rs = Er) :
    Calls Try.prog 36 #[.slice A n ca, .slice D m cd] w fun e w' => e = .returned (.tuple #[.int .i64 N, .int .i64 Er]) ∧ Env w0 w' l := by
  subst hn hm hN hE
  exact (asset_calls A D ca cd xs rs k p w ks ps sx so hx).mono fun _ _ ⟨he, b⟩ => ⟨he, E.below b⟩
end
theorem wakes24 (w : World) : Calls Try.prog 37 #[] w fun e w' => e = .returned (.bool true) ∧ Below w.heap.size w w' := by
  have E0 := Env.start w
  have H1 := Lib.hid (addE_new (s := ⟨#[97]⟩) (b := ⟨#[98]⟩) (n := 100) GoodP.nil (by rw [noS_mk]; rfl) (by rw [noS_mk]; rfl) (by decide) (by decide) (by decide) (q := [⟨⟨#[97]⟩, ⟨#[98]⟩, 100⟩]) (by rfl) (by decide))
  have H2 : Hid (assN [⟨⟨#[97]⟩, ⟨#[98]⟩, 100⟩] [250000] = 25) := by unfold Hid; decide
  have H3 : Hid (assE [⟨⟨#[97]⟩, ⟨#[98]⟩, 100⟩] [250000] = 0) := by unfold Hid; decide
  go_enter Try.func37, Try.ntmps37
  go_wp2_with fail
  refine (Crs.new E0).mono ?_
  rintro e w1 ⟨h1, c, rfl, S1, E1⟩
  try simp at E1
  go_wp2_with fail
  refine (Crs.rows S1 E1 0 rfl 0 rfl).mono ?_
  rintro e w2 ⟨C2, n2, h2, rfl, o2, E2⟩
  try simp at E2
  go_wp2_with fail
  refine (Crs.add S1 E2 0 rfl _ _ _ H1.out).mono ?_
  rintro e w3 ⟨h3, rfl, S3, E3⟩
  try simp at E3
  go_wp2_with fail
  refine (Crs.rows S3 E3 0 rfl 1 rfl).mono ?_
  rintro e w4 ⟨C4, n4, h4, rfl, o4, E4⟩
  try simp at E4
  go_wp2_with fail
  have E5 := E4.alloc (.cells #[.int .i64 250000] 3)
  simp at E5
  refine (Crs.asset E5 o4.sl (E5.sub 2 rfl) (Sl.litInt (xs := [250000]) (Hp.one_self _ _) rfl (by unfold maxLen; simp)) (E5.sub 3 rfl) (by simp) 1 1 rfl rfl H2.out H3.out).mono ?_
  rintro e w6 ⟨rfl, E6⟩
  go_wp2
  go_ret
  exact ⟨rfl, E6.low⟩
end Go.Proofs.Ythcapomobidnbaa
end
section
/- Plain facts for CrossSums. -/
namespace Go.Sl
open Go Go.RowKit
namespace CS
abbrev X : ByteArray := ⟨#[120]⟩
abbrev Y : ByteArray := ⟨#[121]⟩
abbrev Z : ByteArray := ⟨#[122]⟩
abbrev S : ByteArray := ⟨#[115]⟩
abbrev ZZ : ByteArray := ⟨#[122, 122]⟩
theorem to {l : List SPair} (g : GoodP l) {s b : ByteArray} {n v : Int} (h1 : noS s = false) (h2 : noS b = false) (h3 : s ≠ b) (hv : hasP l s b + n = v) (h4 : 0 ≤ v ∧ v ≤ 100000000000) (h6 : -100000000000 ≤ n ∧ n ≤ 100000000000) {q : List SPair} (hq : (if v = 0 then del pkey (s, b) l else put ordStr2 pkey ⟨s, b, v⟩ l) = q) (h5 : q.length ≤ 8) : addE l s b n = 0 ∧ addR l s b n = q := by
  subst hv; exact addE_new g h1 h2 h3 h4 h6 hq h5
variable {a b : Int}
theorem g1 (ha : 1 ≤ a ∧ a ≤ 2000) : GoodP [⟨X, Y, a⟩] := ⟨by simp [Rising], by simp; omega, by simp⟩
theorem ltXY : ordStr2.lt (X, Y) (Y, X) = true := by decide
theorem g2 (ha : 1 ≤ a ∧ a ≤ 2000) (hb : 1 ≤ b ∧ b ≤ 2000) : GoodP [⟨X, Y, a⟩, ⟨Y, X, b⟩] := ⟨by simp only [Rising, List.pairwise_cons, List.mem_singleton, forall_eq]; exact ⟨ltXY, by simp⟩, by simp; omega, by simp⟩
theorem g3 (hb : 1 ≤ b ∧ b ≤ 2000) : GoodP [⟨Y, X, b⟩] := ⟨by simp [Rising], by simp; omega, by simp⟩
theorem a1 (ha : 1 ≤ a ∧ a ≤ 1000) : addE [] X Y a = 0 ∧ addR [] X Y a = [⟨X, Y, a⟩] :=
  to GoodP.nil (by rw [noS_mk]; rfl) (by rw [noS_mk]; rfl) (by decide) (v := a) (by simp [hasP, find]) (by omega) (by omega) (by rw [if_neg (by omega)]; rfl) (by simp)
theorem h21 : hasP [⟨X, Y, a⟩] Y X = 0 := by simp [hasP, find, pkey]
theorem a2 (ha : 1 ≤ a ∧ a ≤ 1000) (hb : 1 ≤ b ∧ b ≤ 1000) : addE [⟨X, Y, a⟩] Y X b = 0 ∧ addR [⟨X, Y, a⟩] Y X b = [⟨X, Y, a⟩, ⟨Y, X, b⟩] :=
  to (g1 (by omega)) (by rw [noS_mk]; rfl) (by rw [noS_mk]; rfl) (by decide) (v := b) (by rw [h21]; omega) (by omega) (by omega) (by rw [if_neg (by omega)]; rfl) (by simp)
theorem h2 : hasP [⟨X, Y, a⟩, ⟨Y, X, b⟩] X Y = a := by simp [hasP, find, pkey]
theorem a3 (ha : 1 ≤ a ∧ a ≤ 1000) : addE [⟨X, Y, a⟩, ⟨Y, X, b⟩] X Y (-a - 1) = 6 ∧ addR [⟨X, Y, a⟩, ⟨Y, X, b⟩] X Y (-a - 1) = [⟨X, Y, a⟩, ⟨Y, X, b⟩] :=
  addE_over (by rw [noS_mk]; rfl) (by rw [noS_mk]; rfl) (by decide) (by omega) (by rw [h2]; omega)
theorem a4 (ha : 1 ≤ a ∧ a ≤ 1000) (hb : 1 ≤ b ∧ b ≤ 1000) : addE [⟨X, Y, a⟩, ⟨Y, X, b⟩] X Y b = 0 ∧ addR [⟨X, Y, a⟩, ⟨Y, X, b⟩] X Y b = [⟨X, Y, a + b⟩, ⟨Y, X, b⟩] :=
  to (g2 (by omega) (by omega)) (by rw [noS_mk]; rfl) (by rw [noS_mk]; rfl) (by decide) (v := a + b) (by rw [h2]) (by omega) (by omega) (by rw [if_neg (by omega)]; rfl) (by simp)
theorem a5 (l : List SPair) : addE l X X 1 = 1 ∧ addR l X X 1 = l := addE_arg (.inr (.inr rfl))
theorem a6 (l : List SPair) : addE l ⟨#[]⟩ Y 1 = 1 ∧ addR l ⟨#[]⟩ Y 1 = l := addE_arg (.inl (by rw [noS_mk]; rfl))
theorem a7 : addE [⟨X, Y, a⟩, ⟨Y, X, b⟩] X Z (-1) = 6 ∧ addR [⟨X, Y, a⟩, ⟨Y, X, b⟩] X Z (-1) = [⟨X, Y, a⟩, ⟨Y, X, b⟩] :=
  addE_over (by rw [noS_mk]; rfl) (by rw [noS_mk]; rfl) (by decide) (by omega) (by simp [hasP, find, pkey])
theorem a8 (ha : 1 ≤ a ∧ a ≤ 1000) (hb : 1 ≤ b ∧ b ≤ 1000) : addE [⟨X, Y, a + b⟩, ⟨Y, X, b⟩] X Y (-a - b) = 0 ∧ addR [⟨X, Y, a + b⟩, ⟨Y, X, b⟩] X Y (-a - b) = [⟨Y, X, b⟩] :=
  to (g2 (by omega) (by omega)) (by rw [noS_mk]; rfl) (by rw [noS_mk]; rfl) (by decide) (v := 0) (by rw [h2]; omega) (by omega) (by omega) (by rw [if_pos rfl]; simp [del, pkey]) (by simp)
theorem a9 (hb : 1 ≤ b ∧ b ≤ 1000) : addE [⟨Y, X, b⟩] Y X (-b) = 0 ∧ addR [⟨Y, X, b⟩] Y X (-b) = [] :=
  to (g3 (by omega)) (by rw [noS_mk]; rfl) (by rw [noS_mk]; rfl) (by decide) (v := 0) (by simp [hasP, find, pkey]; omega) (by omega) (by omega) (by rw [if_pos rfl]; simp [del, pkey]) (by simp)
theorem ofVal_whole {n : Int} (h : 0 ≤ n ∧ n ≤ 2000) : ofVal n 1000000 = n := by
  have : ofOk n 1000000 = true := by simp [ofOk]; omega
  unfold ofVal; rw [if_pos this, partOf_one]
theorem ofVal_none {n : Int} (h : 0 ≤ n ∧ n ≤ 2000) : ofVal n 0 = 0 := by
  have : ofOk n 0 = true := by simp [ofOk]; omega
  unfold ofVal; rw [if_pos this]; unfold partOf; rw [if_neg (by omega)]; simp
theorem s1 (ha : 1 ≤ a ∧ a ≤ 1000) (hb : 1 ≤ b ∧ b ≤ 1000) : assE [⟨X, Y, a + b⟩, ⟨Y, X, b⟩] [1000000, 1000000] = 0 ∧ assN [⟨X, Y, a + b⟩, ⟨Y, X, b⟩] [1000000, 1000000] = a + 2 * b := by
  have e : assS [⟨X, Y, a + b⟩, ⟨Y, X, b⟩] [1000000, 1000000] = a + 2 * b := by simp only [assS]; rw [ofVal_whole (by omega), ofVal_whole (by omega)]; omega
  have h1 : assAll [⟨X, Y, a + b⟩, ⟨Y, X, b⟩] [1000000, 1000000] = true := by simp [assAll, assOk, rightRate, money]; omega
  have h0 : assE [⟨X, Y, a + b⟩, ⟨Y, X, b⟩] [1000000, 1000000] = 0 := by
    unfold assE; rw [if_neg (by simp), if_neg (by rw [h1]; simp), if_neg (by rw [e]; simp [money]; omega)]
  exact ⟨h0, by unfold assN; rw [if_pos h0, e]⟩
theorem s2 (ha : 1 ≤ a ∧ a ≤ 1000) (hb : 1 ≤ b ∧ b ≤ 1000) : assE [⟨X, Y, a + b⟩, ⟨Y, X, b⟩] [0, 0] = 0 ∧ assN [⟨X, Y, a + b⟩, ⟨Y, X, b⟩] [0, 0] = 0 := by
  have e : assS [⟨X, Y, a + b⟩, ⟨Y, X, b⟩] [0, 0] = 0 := by simp only [assS]; rw [ofVal_none (by omega), ofVal_none (by omega)]; rfl
  have h1 : assAll [⟨X, Y, a + b⟩, ⟨Y, X, b⟩] [0, 0] = true := by simp [assAll, assOk, rightRate, money]; omega
  have h0 : assE [⟨X, Y, a + b⟩, ⟨Y, X, b⟩] [0, 0] = 0 := by
    unfold assE; rw [if_neg (by simp), if_neg (by rw [h1]; simp), if_neg (by rw [e]; simp [money])]
  exact ⟨h0, by unfold assN; rw [if_pos h0, e]⟩
theorem s3 : assE [⟨X, Y, a + b⟩, ⟨Y, X, b⟩] [0] = 1 ∧ assN [⟨X, Y, a + b⟩, ⟨Y, X, b⟩] [0] = 0 := by
  have h0 : assE [⟨X, Y, a + b⟩, ⟨Y, X, b⟩] [0] = 1 := by unfold assE; rw [if_pos (by simp)]
  exact ⟨h0, by unfold assN; rw [if_neg (by omega)]⟩
/-- The eight of the loop. -/
def L : Nat → List SPair
  | 0 => []
  | n + 1 => L n ++ [⟨S, ⟨#[UInt8.ofNat (97 + n)]⟩, 1⟩]
theorem L_len : ∀ n, (L n).length = n
  | 0 => rfl
  | n + 1 => by simp [L, L_len n]
theorem gL : ∀ n, n ≤ 8 → GoodP (L n)
  | 0, _ => GoodP.nil
  | 1, _ => ⟨by simp [Rising, L], by simp [L], by simp [L]⟩
  | 2, _ => ⟨by simp [Rising, L]; decide, by simp [L], by simp [L]⟩
  | 3, _ => ⟨by simp [Rising, L]; decide, by simp [L], by simp [L]⟩
  | 4, _ => ⟨by simp [Rising, L]; decide, by simp [L], by simp [L]⟩
  | 5, _ => ⟨by simp [Rising, L]; decide, by simp [L], by simp [L]⟩
  | 6, _ => ⟨by simp [Rising, L]; decide, by simp [L], by simp [L]⟩
  | 7, _ => ⟨by simp [Rising, L]; decide, by simp [L], by simp [L]⟩
  | 8, _ => ⟨by simp [Rising, L]; decide, by simp [L], by simp [L]⟩
  | n + 9, h => by omega
theorem hasL : ∀ n, n < 8 → hasP (L n) S ⟨#[UInt8.ofNat (97 + n)]⟩ = 0 := by decide
theorem putL : ∀ n, n < 8 → put ordStr2 pkey ⟨S, ⟨#[UInt8.ofNat (97 + n)]⟩, 1⟩ (L n) = L (n + 1) := by decide
theorem neL : ∀ n, n < 8 → S ≠ ⟨#[UInt8.ofNat (97 + n)]⟩ := by decide
theorem aL (n : Nat) (h : n < 8) : addE (L n) S ⟨#[UInt8.ofNat (97 + n)]⟩ 1 = 0 ∧ addR (L n) S ⟨#[UInt8.ofNat (97 + n)]⟩ 1 = L (n + 1) :=
  to (gL n (by omega)) (by rw [noS_mk]; rfl) (by rw [noS_mk]; rfl) (neL n h) (v := 1) (by rw [hasL n h]; rfl) (by omega) (by omega) (by rw [if_neg (by omega)]; exact putL n h) (by rw [L_len]; omega)
theorem a10 : addE (L 8) S ZZ 1 = 5 ∧ addR (L 8) S ZZ 1 = L 8 := by
  have hh : hasP (L 8) S ZZ = 0 := by decide
  have hE : addE (L 8) S ZZ 1 = 5 := by
    unfold addE
    rw [hh, if_neg (by rw [noS_mk, noS_mk]; decide), if_neg (by decide), if_pos (by decide)]
  exact ⟨hE, by unfold addR; rw [if_neg (by omega)]⟩
theorem a11 : addE (L 8) S ZZ 0 = 0 ∧ addR (L 8) S ZZ 0 = L 8 :=
  to (gL 8 (by omega)) (by rw [noS_mk]; rfl) (by rw [noS_mk]; rfl) (by decide) (v := 0) (by decide) (by omega) (by omega) (by decide) (by decide)
end CS
end Go.Sl
end
section
/- '==' and '!=' of cross.Row. -/
namespace Go.Proofs.Ythcapomobidnbaa
open Go.RowKit Go.Sl
set_option maxHeartbeats 1000000
set_option maxRecDepth 100000
theorem equalIn_crow (d : Nat) (x0 y0 : ByteArray) (x1 y1 : ByteArray) (x2 y2 : Int) (w : World) : (Op.equalIn (d + 2) 78 (.agg #[.string x0, .string x1, .int .i64 x2]) (.agg #[.string y0, .string y1, .int .i64 y2])).run Try.prog w = .ok ((x0.toList == y0.toList) && ((x1.toList == y1.toList) && (x2 == y2 && (true)))) w := by
  refine equalIn_struct (d := d + 1) Try.underlying78 (by kernel_rfl) ?_
  refine eqFields_cons (by rfl) (by go_simp) (by go_simp) (run_equalIn_string _ _ _ _ _ Try.underlying9) ?_
  refine eqFields_cons (by rfl) (by go_simp) (by go_simp) (run_equalIn_string _ _ _ _ _ Try.underlying9) ?_
  refine eqFields_cons (by rfl) (by go_simp; rfl) (by go_simp; rfl) (by go_simp) ?_
  exact eqFields_nil
theorem eqc_crow (x y : SPair) : (x.s.toList == y.s.toList && (x.b.toList == y.b.toList && (x.amt == y.amt && (true)))) = decide (x = y) := by
  rw [Bool.eq_iff_iff]; cases x; cases y; simp [tl_iff]
theorem ne_crow (x y : SPair) (w : World) : (binOp .neq 78 (.agg #[.string x.s, .string x.b, .int .i64 x.amt]) (.agg #[.string y.s, .string y.b, .int .i64 y.amt])).run Try.prog w = .ok (.bool (neB x y)) w := by
  have h := equalIn_crow 9998 x.s y.s x.b y.b x.amt y.amt w
  simp only [Nat.reduceAdd] at h
  rw [neq_struct h, eqc_crow]; rfl
theorem eq_crow (x y : SPair) (w : World) : (binOp .eql 78 (.agg #[.string x.s, .string x.b, .int .i64 x.amt]) (.agg #[.string y.s, .string y.b, .int .i64 y.amt])).run Try.prog w = .ok (.bool (eqB x y)) w := by
  have h := equalIn_crow 9998 x.s y.s x.b y.b x.amt y.amt w
  simp only [Nat.reduceAdd] at h
  rw [eql_struct h, eqc_crow]; rfl
end Go.Proofs.Ythcapomobidnbaa
end
section
/- string([]byte{b}): one byte's string. -/
namespace Go.Proofs.Ythcapomobidnbaa
open Go.RowKit Go.Sl
theorem conv_byte (w : World) (n : Int) (b c : Nat) (hc : w.cell? ⟨b, 0, none⟩ = some (.int .u8 n)) :
    (convert 76 9 (.slice (some ⟨b, 0, none⟩) 1 c)).run Try.prog w = .ok (.string ⟨#[UInt8.ofNat n.toNat]⟩) w := by
  rw [run_convert_bytes_string w _ _ 5 _ _ _ Try.underlying76 Try.underlying5 Try.underlying9]
  rw [run_bytesToString w _ _ _ [n] ?_]
  · rfl
  · exact run_loadCells_list w ⟨b, 0, none⟩ [.int .u8 n] (fun j v hj => by
      cases j with
      | zero => simp at hj; subst hj; exact hc
      | succ j => simp at hj)
end Go.Proofs.Ythcapomobidnbaa
end
section
/- The walk of law24.CrossSums. -/
namespace Go.Proofs.Ythcapomobidnbaa
open Go.RowKit Go.Sl
set_option maxHeartbeats 4000000
set_option maxRecDepth 100000
theorem crossSums_calls (a0 b0 : Int) (w : World) :
    Calls Try.prog 14 #[.int .i64 a0, .int .i64 b0] w fun e w' => e = .returned (.bool true) ∧ Below w.heap.size w w' := by
  have E0 := Env.start w
  have l1 := within_lo a0 (n := 1000) (by omega)
  have l2 := within_hi a0 (n := 1000) (by omega)
  have l3 := within_lo b0 (n := 1000) (by omega)
  have l4 := within_hi b0 (n := 1000) (by omega)
  have WA := fun W => within_calls a0 1000 W (by omega) (by omega)
  have WB := fun W => within_calls b0 1000 W (by omega) (by omega)
  generalize within a0 1000 = ra at *
  generalize within b0 1000 = rb at *
  go_enter Try.func14, Try.ntmps14
  go_wp2_with fail
  refine (Crs.new E0).mono ?_
  rintro e w1 ⟨h1, c, rfl, S1, E1⟩
  try simp at E1
  go_wp2_with fail
  refine (WA _).mono ?_
  rintro e w' ⟨rfl, rfl⟩
  go_wp2_with fail
  refine (WB _).mono ?_
  rintro e w' ⟨rfl, rfl⟩
  go_wp2_with fail
  refine (Crs.add S1 E1 0 rfl _ _ _ (CS.a1 (by omega))).mono ?_
  rintro e w2 ⟨h2, rfl, S2, E2⟩
  simp only [List.set_cons_zero] at E2
  go_wp2_with fail
  refine (Crs.add S2 E2 0 rfl _ _ _ (CS.a2 (by omega) (by omega))).mono ?_
  rintro e w3 ⟨h3, rfl, S3, E3⟩
  simp only [List.set_cons_zero] at E3
  go_wp2_with fail
  refine (Crs.add S3 E3 0 rfl _ _ _ (CS.a3 (by omega))).mono ?_
  rintro e w4 ⟨h4, rfl, S4, E4⟩
  simp only [List.set_cons_zero] at E4
  go_wp2_with fail
  refine (Crs.add S4 E4 0 rfl _ _ _ (CS.a4 (by omega) (by omega))).mono ?_
  rintro e w5 ⟨h5, rfl, S5, E5⟩
  simp only [List.set_cons_zero] at E5
  go_wp2_with fail
  refine (Crs.add S5 E5 0 rfl _ _ _ (CS.a5 _)).mono ?_
  rintro e w6 ⟨h6, rfl, S6, E6⟩
  simp only [List.set_cons_zero] at E6
  go_wp2_with fail
  refine (Crs.add S6 E6 0 rfl _ _ _ (CS.a6 _)).mono ?_
  rintro e w7 ⟨h7, rfl, S7, E7⟩
  simp only [List.set_cons_zero] at E7
  go_wp2_with fail
  refine (Crs.add S7 E7 0 rfl _ _ _ (CS.a7)).mono ?_
  rintro e w8 ⟨h8, rfl, S8, E8⟩
  simp only [List.set_cons_zero] at E8
  go_wp2_with fail
  refine (Crs.rows S8 E8 0 rfl 2 rfl).mono ?_
  rintro e w9 ⟨C, cap, hr, rfl, oR, E9⟩
  simp at E9
  clear WA WB
  have q0 := oR.sl.pair (E9.sub 1 rfl) (i := 0) (Lib.hid rfl)
  obtain ⟨B, off, rfl, x1, x2, x3⟩ := q0
  have q1 := oR.sl.pair (E9.sub 1 rfl) (i := 1) (Lib.hid rfl)
  obtain ⟨B', off', e1, y1, y2, y3⟩ := q1
  cases e1
  have n0 := fun W => ne_crow ⟨CS.X, CS.Y, 1 + ra + (1 + rb)⟩ ⟨CS.X, CS.Y, 1 + ra + (1 + rb)⟩ W
  have n1 := fun W => ne_crow ⟨CS.Y, CS.X, 1 + rb⟩ ⟨CS.Y, CS.X, 1 + rb⟩ W
  have nb0 : neB (⟨CS.X, CS.Y, 1 + ra + (1 + rb)⟩ : SPair) ⟨CS.X, CS.Y, 1 + ra + (1 + rb)⟩ = false := by simp [neB]
  have nb1 : neB (⟨CS.Y, CS.X, 1 + rb⟩ : SPair) ⟨CS.Y, CS.X, 1 + rb⟩ = false := by simp [neB]
  simp only [nb0] at n0
  simp only [nb1] at n1
  simp at x1 x2 x3 y1 y2 y3
  go_wp2_with fail
  have E10 := E9.alloc (.cells #[.int .i64 1000000, .int .i64 1000000] 3)
  simp at E10
  refine (Crs.asset E10 oR.sl (E10.sub 1 rfl) (Sl.litInt (xs := [1000000, 1000000]) (Hp.one_self _ _) rfl (by unfold maxLen; simp)) (E10.sub 2 rfl) (by simp) 2 2 rfl rfl (CS.s1 (by omega) (by omega)).2 (CS.s1 (by omega) (by omega)).1).mono ?_
  rintro e w10 ⟨rfl, E10⟩
  go_wp2_with fail
  have E11 := E10.alloc (.cells #[.int .i64 0, .int .i64 0] 3)
  simp at E11
  refine (Crs.asset E11 oR.sl (E11.sub 1 rfl) (Sl.litInt (xs := [0, 0]) (Hp.one_self _ _) rfl (by unfold maxLen; simp)) (E11.sub 3 rfl) (by simp) 2 2 rfl rfl (CS.s2 (by omega) (by omega)).2 (CS.s2 (by omega) (by omega)).1).mono ?_
  rintro e w11 ⟨rfl, E11⟩
  go_wp2_with fail
  have E12 := E11.alloc (.cells #[.int .i64 0] 3)
  simp at E12
  refine (Crs.asset E12 oR.sl (E12.sub 1 rfl) (Sl.litInt (xs := [0]) (Hp.one_self _ _) rfl (by unfold maxLen; simp)) (E12.sub 4 rfl) (by simp) 2 1 rfl rfl CS.s3.2 CS.s3.1).mono ?_
  rintro e w12 ⟨rfl, E12⟩
  go_wp2_with fail
  refine (Crs.add S8 E12 0 rfl _ _ _ (CS.a8 (by omega) (by omega))).mono ?_
  rintro e w13 ⟨h13, rfl, S13, E13⟩
  simp only [List.set_cons_zero] at E13
  go_wp2_with fail
  refine (Crs.add S13 E13 0 rfl _ _ _ (CS.a9 (by omega))).mono ?_
  rintro e w14 ⟨h14, rfl, S14, E14⟩
  simp only [List.set_cons_zero] at E14
  go_wp2_with fail
  go_loopw [13] (fun i wr => ∃ (j : Nat) (h' : Hp) (l : List Hp), j ≤ 8 ∧ i = .int .i64 j ∧ Crs h' c (CS.L j) ∧ Env w wr (h' :: l)) (fun i _ => 8 - (intOf i).toNat)
  case atStart => exact ⟨0, _, _, by omega, rfl, S14, E14⟩
  case round =>
    clear S14 E14
    obtain ⟨j, h', l, hj, rfl, S, E⟩ := hrel
    by_cases hlt : j < 8
    · have i1 : (0 : Int) ≤ (j : Int) := by omega
      have i2 : (j : Int) < 8 := by omega
      have HA := CS.aL j hlt
      have HC : (convert 76 9 (.slice (some ⟨wr.heap.size, 0, none⟩) 1 1)).run Try.prog (wr.alloc (.cells #[.int .u8 (97 + (j : Int))] 5)) = .ok (.string ⟨#[UInt8.ofNat (97 + j)]⟩) (wr.alloc (.cells #[.int .u8 (97 + (j : Int))] 5)) := by
        have := conv_byte (wr.alloc (.cells #[.int .u8 (97 + (j : Int))] 5)) (97 + (j : Int)) wr.heap.size 1 (cell_of_row _ _ 0 _ _ _ (heap_new_at rfl))
        rw [show (97 + (j : Int)).toNat = 97 + j by omega] at this
        exact this
      generalize (⟨#[UInt8.ofNat (97 + j)]⟩ : ByteArray) = s at *
      go_wp2_with fail
      refine (Crs.add S (E.alloc' _) 0 rfl _ _ _ HA).mono ?_
      rintro e w15 ⟨h15, rfl, S15, E15⟩
      simp only [List.set_cons_zero] at E15
      go_wp2
      go_roundw
      case rel => exact ⟨j + 1, _, _, by omega, by go_num, S15, E15⟩
      case measure => simp [intOf]; omega
    · obtain rfl : j = 8 := by omega
      go_wp2_with fail
      refine (Crs.add S E 0 rfl _ _ _ CS.a10).mono ?_
      rintro e w15 ⟨h15, rfl, S15, E15⟩
      simp only [List.set_cons_zero] at E15
      go_wp2_with fail
      refine (Crs.add S15 E15 0 rfl _ _ _ CS.a11).mono ?_
      rintro e w16 ⟨h16, rfl, S16, E16⟩
      simp only [List.set_cons_zero] at E16
      go_wp2_with fail
      refine (Crs.rows S16 E16 0 rfl 8 (CS.L_len 8)).mono ?_
      rintro e w17 ⟨C', cap', hr', rfl, oR', E17⟩
      go_wp2_with fail
      refine (wakes24 _).mono ?_
      rintro e w18 ⟨rfl, B18⟩
      go_wp2
      go_ret
      exact ⟨rfl, (E17.below B18).low⟩
end Go.Proofs.Ythcapomobidnbaa
end
namespace Go.Proofs.Ythcapomobidnbaa.crossSums
open Go.ChangeShapes Go.WideShapes Go.ChangeAt Go.RowKit Go.Sl
set_option linter.unusedVariables false
set_option maxRecDepth 100000
theorem lifted (os : Os) (started : os.Started) (H : Type) (enc : TypeId × Value → H) :
    ReturnsInHanded {} Try.checked os 14 .any (Rows.crossSumsSpec.pre6 enc Try.prog Try.f14 Rows.crossSumsRow.domain false) (Rows.crossSumsSpec.post enc Try.prog Try.f14 false true false false) := by
  refine returnsInHanded_of_change_sized (C := Try.checked) Lift.own started (by kernel_rfl) Try.func14
    (ChangeSpec.witness6 (enc := enc) (C := Try.checked) false ⟨#[], #[.int .i64 0, .int .i64 0], []⟩ 8 (by kernel_rfl) (by kernel_rfl) (by kernel_rfl) (by kernel_rfl)) ?_
  intro W base args ds gs before hval0 hW hcnd hsz0 _
  have hval : ∀ (j : Nat) t v, Try.f14.params[j]? = some t → args[j]? = some v → Value.okWide Try.prog W .any base t v := hval0
  have hW' := hW
  obtain ⟨p, q, hA0, hV, rfl, hfz, hnd⟩ := hW
  have hA : DataW.TrodAll enc Try.prog W 0 (fun _ => true) true Try.f14.params.toList args.toList ds p := hA0
  rw [Try.params14] at hA hval
  obtain ⟨v0, vs0, d0, ds0, p0, q0, hargs, rfl, rfl, h0, r0⟩ := trodAll_cons hA
  obtain ⟨v1, vs1, d1, ds1, p1, q1, rfl, rfl, rfl, h1, r1⟩ := trodAll_cons r0
  obtain ⟨rfl, rfl, rfl⟩ := trodAll_nil r1
  obtain rfl : args = #[v0, v1] := by cases args; simp_all
  obtain ⟨rfl, rfl⟩ := trodVars_none hV
  obtain ⟨a0, rfl, rfl, rfl, x0⟩ := open_int Try.underlying3 (hval 0 3 v0 rfl rfl) h0
  have w0 := I64.of_wf x0
  obtain ⟨a1, rfl, rfl, rfl, x1⟩ := open_int Try.underlying3 (hval 1 3 v1 rfl rfl) h1
  have w1 := I64.of_wf x1
  clear hA0 hval0 hsz0
  refine (crossSums_calls a0 a1 W).mono fun e W' ⟨he, bel⟩ => ?_
  subst he
  exact ⟨_, rfl, _, _, _, [], _, [], hW', trodAll_mk1 (shut_bool Try.underlying4 _), (trodAll_cons_mk (shut_int Try.underlying3 x0) (trodAll_cons_mk (shut_int Try.underlying3 x1) trodAll_mk0)), rfl, bel.frame _, fun h => by cases h⟩
theorem over : Rows.crossSumsRow.holds Try.pinned (OpenSpec.ofChange Rows.crossSumsSpec) :=
  OpenClaim.holds_of_wide 14 Try.f14 rfl rfl rfl rfl rfl rfl rfl ⟨rfl, rfl, rfl, rfl, rfl⟩ rfl rfl rfl rfl rfl (by kernel_rfl) Try.func14 (by kernel_rfl)
    (of_decide_eq_true (by kernel_rfl)) (by unfold Func.isWrapper; first | (rw [if_pos (by decide +kernel)]; kernel_rfl) | (rw [if_neg (by decide +kernel)]; exact ⟨rfl, rfl⟩))
    (fun os started H enc _ => lifted os started H enc)
end Go.Proofs.Ythcapomobidnbaa.crossSums
namespace Go.Proofs.Ythcapomobidnbaa
theorem crossSums_holds : Rows.CrossSumsSaid := crossSums.over
#print axioms crossSums_holds
end Go.Proofs.Ythcapomobidnbaa
