/- Walks and plain facts that the laws of this seat share, part 4: contracts of functions, each said at its theorem. -/
import Derived.Test.YtdcfojohgcmpcaaPk3
import Derived.Laws.BytesString
import Derived.Test.YtdcfojohgcmpcaaChecked
import Derived.Shelf.SlSortCmp.WholeK
import Derived.Shelf.SlGeneric
import Derived.Shelf.Abstract
import Derived.Lib.BufferMore
section
/- The calls of chapter 24, in a body's own memory; law24.wakes. -/
namespace Go.Sl
open Go Go.RowKit
/-- A pair that is put among others. -/
theorem addE_new {l : List SPair} (g : GoodP l) {s b : ByteArray} {n : Int} (h1 : noS s = false) (h2 : noS b = false) (h3 : s ≠ b) (h4 : 0 ≤ hasP l s b + n ∧ hasP l s b + n ≤ 100000000000) (h6 : -100000000000 ≤ n ∧ n ≤ 100000000000) {q : List SPair} (hq : (if hasP l s b + n = 0 then del pkey (s, b) l else put ordStr2 pkey ⟨s, b, hasP l s b + n⟩ l) = q) (h5 : q.length ≤ 8) :
    addE l s b n = 0 ∧ addW l s b n = q := by
  have hp := nextP_put g.rise s b (hasP l s b + n)
  rw [hq] at hp
  have hl := isort_length (nextP_dist g.rise s b (hasP l s b + n))
  rw [hp] at hl
  have m1 : money n = true := by simp [money]; omega
  have m2 : money (hasP l s b + n) = true := by simp [money]; omega
  have hE : addE l s b n = 0 := by
    unfold addE
    rw [if_neg (by simp [h1, h2, h3, m1]), if_neg (by simp [m2]; omega), if_neg (by omega)]
  exact ⟨hE, by unfold addW; rw [if_pos hE, hp]⟩
theorem addE_over {l : List SPair} {s b : ByteArray} {n : Int} (h1 : noS s = false) (h2 : noS b = false) (h3 : s ≠ b) (h6 : -100000000000 ≤ n ∧ n ≤ 100000000000) (h4 : hasP l s b + n < 0) : addE l s b n = 6 ∧ addW l s b n = l := by
  have m1 : money n = true := by simp [money]; omega
  have hE : addE l s b n = 6 := by
    unfold addE
    rw [if_neg (by simp [h1, h2, h3, m1]), if_pos (by simp [h4])]
  exact ⟨hE, by unfold addW; rw [if_neg (by omega)]⟩
theorem addE_arg {l : List SPair} {s b : ByteArray} {n : Int} (h : noS s = true ∨ noS b = true ∨ s = b) : addE l s b n = 1 ∧ addW l s b n = l := by
  have hE : addE l s b n = 1 := by
    unfold addE
    rw [if_pos (by rcases h with h | h | h <;> simp [h])]
  exact ⟨hE, by unfold addW; rw [if_neg (by omega)]⟩
theorem noS_mk (a : Array UInt8) : noS ⟨a⟩ = a.toList.isEmpty := by unfold noS; rw [tl_data]
end Go.Sl
namespace Go.Proofs.Ytdcfojohgcmpcaa
open Go.RowKit Go.Sl
set_option maxHeartbeats 1000000
set_option maxRecDepth 100000
structure Crs (h : Hp) (b : Nat) (l : List SPair) : Prop where
  pt : Pt (kOne kPair) 122 h b l
  good : GoodP l
section
variable {w0 w : World} {l : List Hp} {h k p : Hp} {b : Nat} {xs : List SPair} {rs : List Int} {A D : Option Addr} {ca cd : Nat}
theorem Crs.new (E : Env w0 w l) : Calls Try.prog 26 #[] w fun e w' => ∃ h b, e = .returned (.pointer (some ⟨b, 0, none⟩)) ∧ Crs h b [] ∧ Env w0 w' (l ++ [h]) :=
  (crossNew_calls w).mono fun _ _ ⟨h, b, he, hp, u⟩ => ⟨h, b, he, ⟨hp, GoodP.nil⟩, E.new u⟩
theorem Crs.rows (S : Crs h b xs) (E : Env w0 w l) (i : Nat) (hi : l[i]? = some h) (n : Nat) (hn : xs.length = n) :
    Calls Try.prog 28 #[.pointer (some ⟨b, 0, none⟩)] w fun e w' => ∃ C cap h', e = .returned (.slice C n cap) ∧ Ow kPair h' C cap xs ∧ Env w0 w' (l ++ [h']) := by
  subst hn
  exact (crossRows_calls b xs h w (E.sub i hi) S.pt (by have := S.good.len; omega)).mono fun _ _ ⟨C, cap, h', he, ho, u⟩ => ⟨C, cap, h', he, ho, E.new u⟩
theorem Crs.add (S : Crs h b xs) (E : Env w0 w l) (i : Nat) (hi : l[i]? = some h) (s bb : ByteArray) (n : Int) {q : Int} {ys : List SPair} (hE : addE xs s bb n = q ∧ addW xs s bb n = ys) :
    Calls Try.prog 27 #[.pointer (some ⟨b, 0, none⟩), .string s, .string bb, .int .i64 n] w fun e w' => ∃ h', e = .returned (.int .i64 q) ∧ Crs h' b ys ∧ Env w0 w' (l.set i h') := by
  obtain ⟨h1, h2⟩ := hE
  subst h1
  subst h2
  exact (crossAdd_calls b xs s bb n h w (E.sub i hi) S.pt S.good).mono fun _ _ ⟨h', he, hp, u⟩ => ⟨h', he, ⟨hp, S.good.add s bb n⟩, E.upd i hi u⟩
theorem Crs.asset (E : Env w0 w l) (sx : Sl kPair k A ca xs) (ks : k.sub w) (so : Sl kInt p D cd rs) (ps : p.sub w) (hx : xs.length ≤ 1000) (n m : Nat) (hn : xs.length = n) (hm : rs.length = m) {N Er : Int} (hN : assN xs rs = N) (hE : assE xs rs = Er) :
    Calls Try.prog 16 #[.slice A n ca, .slice D m cd] w fun e w' => e = .returned (.tuple #[.int .i64 N, .int .i64 Er]) ∧ Env w0 w' l := by
  subst hn hm hN hE
  exact (asset_calls A D ca cd xs rs k p w ks ps sx so hx).mono fun _ _ ⟨he, b⟩ => ⟨he, E.below b⟩
end
theorem wakes24 (w : World) : Calls Try.prog 17 #[] w fun e w' => e = .returned (.bool true) ∧ Below w.heap.size w w' := by
  have E0 := Env.start w
  have H1 := Lib.hid (addE_new (s := ⟨#[97]⟩) (b := ⟨#[98]⟩) (n := 100) GoodP.nil (by rw [noS_mk]; rfl) (by rw [noS_mk]; rfl) (by decide) (by decide) (by decide) (q := [⟨⟨#[97]⟩, ⟨#[98]⟩, 100⟩]) (by rfl) (by decide))
  have H2 : Hid (assN [⟨⟨#[97]⟩, ⟨#[98]⟩, 100⟩] [250000] = 25) := by unfold Hid; decide
  have H3 : Hid (assE [⟨⟨#[97]⟩, ⟨#[98]⟩, 100⟩] [250000] = 0) := by unfold Hid; decide
  go_enter Try.func17, Try.ntmps17
  go_wp2_with fail
  refine (Crs.new E0).mono ?_
  rintro e w1 ⟨h1, c, rfl, S1, E1⟩
  try simp at E1
  go_wp2_with fail
  refine (Crs.rows S1 E1 0 rfl 0 rfl).mono ?_
  rintro e w2 ⟨C2, n2, h2, rfl, o2, E2⟩
  try simp at E2
  go_wp2_with fail
  refine (Crs.add S1 E2 0 rfl _ _ _ H1.out).mono ?_
  rintro e w3 ⟨h3, rfl, S3, E3⟩
  try simp at E3
  go_wp2_with fail
  refine (Crs.rows S3 E3 0 rfl 1 rfl).mono ?_
  rintro e w4 ⟨C4, n4, h4, rfl, o4, E4⟩
  try simp at E4
  go_wp2_with fail
  have E5 := E4.alloc (.cells #[.int .i64 250000] 3)
  simp at E5
  refine (Crs.asset E5 o4.sl (E5.sub 2 rfl) (Sl.litInt (xs := [250000]) (Hp.one_self _ _) rfl (by unfold maxLen; simp)) (E5.sub 3 rfl) (by simp) 1 1 rfl rfl H2.out H3.out).mono ?_
  rintro e w6 ⟨rfl, E6⟩
  go_wp2
  go_ret
  exact ⟨rfl, E6.low⟩
end Go.Proofs.Ytdcfojohgcmpcaa
end
section
/- string([]byte{b}): one byte's string. -/
namespace Go.Proofs.Ytdcfojohgcmpcaa
open Go.RowKit Go.Sl
theorem conv_byte (w : World) (n : Int) (b c : Nat) (hc : w.cell? ⟨b, 0, none⟩ = some (.int .u8 n)) :
    (convert 25 9 (.slice (some ⟨b, 0, none⟩) 1 c)).run Try.prog w = .ok (.string ⟨#[UInt8.ofNat n.toNat]⟩) w := by
  rw [run_convert_bytes_string w _ _ 5 _ _ _ Try.underlying25 Try.underlying5 Try.underlying9]
  rw [run_bytesToString w _ _ _ [n] ?_]
  · rfl
  · exact run_loadCells_list w ⟨b, 0, none⟩ [.int .u8 n] (fun j v hj => by
      cases j with
      | zero => simp at hj; subst hj; exact hc
      | succ j => simp at hj)
end Go.Proofs.Ytdcfojohgcmpcaa
end
section
/- Registers of temporary differences, plain. No program is named here. -/
namespace Go.Sl
def rkey (x : STri) : Int × Int := (x.a, x.b)
abbrev RisingR (l : List STri) : Prop := Rising ordPair rkey l
def getB (l : List STri) (c y : Int) : Int := match find rkey (c, y) l with | some b => b.c | none => 0
def sumC (l : List STri) : Int := (l.map (·.c)).sum
def setB (l : List STri) (c y n : Int) : List STri := if n = 0 then del rkey (c, y) l else put ordPair rkey ⟨c, y, n⟩ l
theorem setGo_setB {l : List STri} (h : RisingR l) (c y n : Int) : setGo ordPair rkey ⟨c, y, n⟩ (decide (n = 0)) l = setB l c y n := by
  unfold setB
  by_cases h0 : n = 0
  · rw [if_pos h0, decide_eq_true h0, setGo_true]; rfl
  · rw [if_neg h0, decide_eq_false h0, setGo_false _ _ _ _ h]
def bucketOk (c y : Int) : Bool := decide (1 ≤ c ∧ c ≤ 9 ∧ 0 ≤ y ∧ y ≤ 99)
def moveE (l : List STri) (c y n : Int) : Int :=
  if (bucketOk c y && money n) = false then 1
  else if (money (getB l c y + n) && money (sumC l + n)) = false then 6
  else if 12 < (setB l c y (getB l c y + n)).length then 5 else 0
def moveR (l : List STri) (c y n : Int) : List STri := if moveE l c y n = 0 then setB l c y (getB l c y + n) else l
def reclE (l : List STri) (c y c2 y2 n : Int) : Int :=
  if (bucketOk c y && (bucketOk c2 y2 && (money n && !decide (c = c2 ∧ y = y2)))) = false then 1
  else if (money (getB l c y - n) && money (getB l c2 y2 + n)) = false then 6
  else if 12 < (setB (setB l c y (getB l c y - n)) c2 y2 (getB l c2 y2 + n)).length then 5 else 0
def reclR (l : List STri) (c y c2 y2 n : Int) : List STri := if reclE l c y c2 y2 n = 0 then setB (setB l c y (getB l c y - n)) c2 y2 (getB l c2 y2 + n) else l
/-- What holds of all registers. -/
structure GoodR (l : List STri) : Prop where
  rise : RisingR l
  nz : ∀ b ∈ l, b.c ≠ 0
  mon : ∀ b ∈ l, money b.c = true
  rng : ∀ b ∈ l, bucketOk b.a b.b = true
  len : l.length ≤ 12
theorem GoodR.nil : GoodR [] := ⟨List.Pairwise.nil, by simp, by simp, by simp, by simp⟩
theorem rising_setB {l : List STri} (h : RisingR l) (c y n : Int) : RisingR (setB l c y n) := by
  unfold setB; split
  · exact h.del _ _ _
  · exact h.put _ _ _
theorem mem_setB {l : List STri} {c y n : Int} {x : STri} : x ∈ setB l c y n ↔ (n ≠ 0 ∧ x = ⟨c, y, n⟩) ∨ x ∈ l ∧ rkey x ≠ (c, y) := by
  unfold setB
  split
  · rename_i h; simp [h, mem_del]
  · rename_i h; simp [h, mem_put, rkey]
theorem getB_setB {l : List STri} (h : RisingR l) (c y n c' y' : Int) : getB (setB l c y n) c' y' = if c' = c ∧ y' = y then n else getB l c' y' := by
  unfold setB getB
  by_cases h0 : n = 0
  · rw [if_pos h0, find_del (o := ordPair) _ h]
    by_cases e : (c', y') = (c, y)
    · rw [if_pos e, if_pos (by simpa using e)]; exact h0.symm
    · rw [if_neg e, if_neg (by simpa using e)]
  · rw [if_neg h0, find_put _ h]
    by_cases e : (c', y') = (c, y)
    · rw [if_pos (by simpa [rkey] using e), if_pos (by simpa using e)]
    · rw [if_neg (by simpa [rkey] using e), if_neg (by simpa using e)]
theorem sumC_setB {l : List STri} (h : RisingR l) (c y n : Int) : sumC (setB l c y n) = sumC l - getB l c y + n := by
  have e := sum_del (o := ordPair) (fun b : STri => b.c) (c, y) h
  have e : (l.map (·.c)).sum = ((del rkey (c, y) l).map (·.c)).sum + getB l c y := by
    rw [e]; unfold getB; cases find rkey (c, y) l <;> rfl
  unfold setB sumC
  split
  · rename_i h0; subst h0
    omega
  · rw [sum_put (fun b : STri => b.c) _ h]
    show ((del rkey (c, y) l).map (·.c)).sum + n = _
    omega
theorem len_setB {l : List STri} (h : RisingR l) (c y n : Int) : (setB l c y n).length ≤ l.length + 1 := by
  unfold setB
  split
  · have := del_le (key := rkey) (c, y) l; omega
  · rw [len_put _ h]; have := del_le (key := rkey) (rkey ⟨c, y, n⟩) l; omega
theorem GoodR.setB {l : List STri} (g : GoodR l) {c y n : Int} (hb : bucketOk c y = true) (hn : money n = true) (hl : (setB l c y n).length ≤ 12) : GoodR (setB l c y n) :=
  by
  refine ⟨rising_setB g.rise c y n, fun b hb' => ?_, fun b hb' => ?_, fun b hb' => ?_, hl⟩
  all_goals rcases mem_setB.1 hb' with ⟨h0, rfl⟩ | ⟨h, _⟩
  · exact h0
  · exact g.nz b h
  · exact hn
  · exact g.mon b h
  · exact hb
  · exact g.rng b h
theorem moveE_ok {l : List STri} {c y n : Int} (h : moveE l c y n = 0) : bucketOk c y = true ∧ money n = true ∧ money (getB l c y + n) = true ∧ money (sumC l + n) = true ∧ (Go.Sl.setB l c y (getB l c y + n)).length ≤ 12 := by
  unfold moveE at h
  split at h
  · cases h
  · split at h
    · cases h
    · split at h
      · cases h
      · rename_i h1 h2 h3
        simp at h1 h2
        exact ⟨h1.1, h1.2, h2.1, h2.2, by omega⟩
theorem GoodR.move {l : List STri} (g : GoodR l) (c y n : Int) : GoodR (moveR l c y n) := by
  unfold moveR
  split
  · rename_i h
    obtain ⟨h1, _, h3, _, h5⟩ := moveE_ok h
    exact g.setB h1 h3 h5
  · exact g
theorem reclE_ok {l : List STri} {c y c2 y2 n : Int} (h : reclE l c y c2 y2 n = 0) : bucketOk c y = true ∧ bucketOk c2 y2 = true ∧ money n = true ∧ ¬(c = c2 ∧ y = y2) ∧ money (getB l c y - n) = true ∧ money (getB l c2 y2 + n) = true ∧ (Go.Sl.setB (Go.Sl.setB l c y (getB l c y - n)) c2 y2 (getB l c2 y2 + n)).length ≤ 12 := by
  unfold reclE at h
  split at h
  · cases h
  · split at h
    · cases h
    · split at h
      · cases h
      · rename_i h1 h2 h3
        simp at h1 h2
        exact ⟨h1.1, h1.2.1, h1.2.2.1, by simpa using h1.2.2.2, h2.1, h2.2, by omega⟩
theorem mem_len {l : List STri} (h : ∀ b ∈ l, money b.c = true) : ∀ b ∈ l, -100000000000 ≤ b.c ∧ b.c ≤ 100000000000 := fun b hb => by have := h b hb; simpa [money] using this
theorem sumC_bd {m : Int} (hm : 0 ≤ m) : ∀ l : List STri, (∀ b ∈ l, -m ≤ b.c ∧ b.c ≤ m) → -(l.length * m) ≤ sumC l ∧ sumC l ≤ l.length * m
  | [], _ => by simp [sumC]
  | b :: l, h => by
    have h1 := sumC_bd hm l fun x hx => h x (by simp [hx])
    have h2 := h b (by simp)
    have e : sumC (b :: l) = b.c + sumC l := by simp [sumC]
    rw [e]
    simp only [List.length_cons, Int.natCast_add, Int.add_mul, Int.natCast_one, Int.one_mul]
    omega
theorem GoodR.sum {l : List STri} (g : GoodR l) : -1200000000000 ≤ sumC l ∧ sumC l ≤ 1200000000000 := by
  have h := sumC_bd (m := 100000000000) (by omega) l (mem_len g.mon)
  have := g.len
  omega
theorem GoodR.get {l : List STri} (g : GoodR l) (c y : Int) : -100000000000 ≤ getB l c y ∧ getB l c y ≤ 100000000000 := by
  unfold getB
  split
  · rename_i b hb; exact mem_len g.mon b (find_some hb).1
  · omega
/-- A register out of numbers. -/
def regStep (l : List STri) (z : Int) : List STri := moveR l (1 + within z 3) (within (z.tdiv 3) 5) (amount (z.tdiv 15))
def regOf (zs : List Int) : List STri := (zs.take 10).foldl regStep []
theorem GoodR.foldl : ∀ (zs : List Int) (l : List STri), GoodR l → GoodR (zs.foldl regStep l)
  | [], _, g => g
  | _ :: zs, _, g => GoodR.foldl zs _ (g.move _ _ _)
theorem regOf_good (zs : List Int) : GoodR (regOf zs) := GoodR.foldl _ _ .nil
end Go.Sl
end
section
/- The program's register, its rows in any order, plain. No program is named here. -/
namespace Go.Sl
section
variable {κ α : Type} [DecidableEq κ] {o : Ord κ} {key : α → κ}
theorem isort_perm {l : List α} (h : l.Pairwise fun x y => key x ≠ key y) : (isort o key l).Perm l := by
  induction l with
  | nil => exact List.Perm.refl _
  | cons x l ih =>
    obtain ⟨a, b⟩ := List.pairwise_cons.1 h
    have hn : find key (key x) (isort o key l) = none := by
      unfold find; rw [List.find?_eq_none]; intro y hy
      have := a y ((mem_isort b).1 hy); simpa using this.symm
    have hp := put_perm (o := o) x (isort_rising (o := o) (key := key) l)
    rw [del_none hn] at hp
    exact hp.trans ((ih b).cons x)
theorem find_isort {l : List α} (h : l.Pairwise fun x y => key x ≠ key y) (k : κ) : find key k (isort o key l) = find key k l := by
  cases hf : find key k l with
  | none =>
    unfold find; rw [List.find?_eq_none]; intro y hy
    simpa using find_none hf y ((mem_isort h).1 hy)
  | some y =>
    obtain ⟨h1, rfl⟩ := find_some hf
    exact find_mem (o := o) (isort_rising l) ((mem_isort h).2 h1)
/-- The element of a key is another one. -/
theorem set_map {l : List α} (h : l.Pairwise fun x y => key x ≠ key y) {i : Nat} {x y : α} (hx : l[i]? = some x) : l.set i y = l.map fun z => if key z = key x then y else z := by
  induction l generalizing i with
  | nil => simp at hx
  | cons z l ih =>
    obtain ⟨a, b⟩ := List.pairwise_cons.1 h
    cases i with
    | zero =>
      simp at hx; subst hx
      rw [List.set_cons_zero, List.map_cons, if_pos rfl]
      congr 1
      conv => lhs; rw [← List.map_id l]
      exact List.map_congr_left fun w hw => (if_neg fun e => a w hw (Eq.symm e)).symm
    | succ i =>
      have hx' : l[i]? = some x := by simpa using hx
      rw [List.set_cons_succ, List.map_cons, if_neg (a x (List.mem_of_getElem? hx')), ih b hx']
end
theorem Ow.ne_block {α : Type} {k : Kd α} {h : Hp} {b off cap q : Nat} {xs : List α} (o : Ow k h (some ⟨b, off, .none⟩) cap xs) (h0 : 0 < xs.length) (hq : h q = Option.none) : b ≠ q := fun e => by
  obtain ⟨b', off', cur, E, e', hb, _, _⟩ := o.row _ rfl (by have := o.le; omega)
  cases e'
  rw [e, hq] at hb; cases hb
def isB (c y : Int) (x : STri) : Bool := decide (x.a = c ∧ x.b = y)
def zeroB (x : STri) : Bool := decide (x.c = 0)
theorem isB_key {c y : Int} {x : STri} : isB c y x = true ↔ rkey x = (c, y) := by simp [isB, rkey]
abbrev DistR (l : List STri) : Prop := l.Pairwise fun x y => rkey x ≠ rkey y
/-- What set lays, before what is 0 goes. -/
def rawPut (l : List STri) (c y n : Int) : List STri :=
  if l.any (isB c y) then l.map fun z => if rkey z = (c, y) then ⟨c, y, n⟩ else z else if n = 0 then l else l ++ [⟨c, y, n⟩]
def rawSet (l : List STri) (c y n : Int) : List STri := (rawPut l c y n).filter fun z => !zeroB z
/-- The rows r, sorted, are the register l. -/
structure RawR (r l : List STri) : Prop where
  dist : DistR r
  eq : isort ordPair rkey r = l
  good : GoodR l
theorem RawR.nil : RawR [] [] := ⟨List.Pairwise.nil, rfl, .nil⟩
section
variable {r l : List STri}
theorem RawR.perm (R : RawR r l) : r.Perm l := by have := (isort_perm (o := ordPair) R.dist).symm; rwa [R.eq] at this
theorem RawR.len (R : RawR r l) : r.length = l.length := R.perm.length_eq
theorem RawR.mem (R : RawR r l) {x : STri} : x ∈ r ↔ x ∈ l := R.perm.mem_iff
theorem RawR.get (R : RawR r l) (c y : Int) : getB r c y = getB l c y := by
  unfold getB; rw [← R.eq, find_isort R.dist]
theorem RawR.sum (R : RawR r l) : sumC r = sumC l := sum_perm (R.perm.map _)
theorem rawPut_dist (h : DistR r) (c y n : Int) : DistR (rawPut r c y n) := by
  unfold rawPut
  split
  · refine List.pairwise_map.2 (h.imp fun {a b} e => ?_)
    by_cases ha : rkey a = (c, y) <;> by_cases hb : rkey b = (c, y)
    · exact absurd (ha.trans hb.symm) e
    · rw [if_pos ha, if_neg hb]; exact fun e => hb e.symm
    · rw [if_neg ha, if_pos hb]; exact ha
    · rw [if_neg ha, if_neg hb]; exact e
  · rename_i hn
    split
    · exact h
    · refine List.pairwise_append.2 ⟨h, by simp, fun a ha b hb => ?_⟩
      simp at hb; subst hb
      intro e
      exact hn (List.any_eq_true.2 ⟨a, ha, isB_key.2 e⟩)
theorem rawSet_dist (h : DistR r) (c y n : Int) : DistR (rawSet r c y n) := (rawPut_dist h c y n).filter _
theorem mem_rawSet (nz : ∀ b ∈ r, b.c ≠ 0) {c y n : Int} {x : STri} : x ∈ rawSet r c y n ↔ (n ≠ 0 ∧ x = ⟨c, y, n⟩) ∨ x ∈ r ∧ rkey x ≠ (c, y) := by
  have H : ∀ x, x ∈ rawPut r c y n → x.c ≠ 0 → (n ≠ 0 ∧ x = ⟨c, y, n⟩) ∨ x ∈ r ∧ rkey x ≠ (c, y) := by
    intro x hx hc
    unfold rawPut at hx
    split at hx
    · obtain ⟨z, hz, e⟩ := List.mem_map.1 hx
      split at e
      · subst e; exact .inl ⟨hc, rfl⟩
      · rename_i hk; subst e; exact .inr ⟨hz, hk⟩
    · rename_i hn
      have hk : ∀ z ∈ r, rkey z ≠ (c, y) := fun z hz e => hn (List.any_eq_true.2 ⟨z, hz, isB_key.2 e⟩)
      split at hx
      · exact .inr ⟨hx, hk x hx⟩
      · rcases List.mem_append.1 hx with hx | hx
        · exact .inr ⟨hx, hk x hx⟩
        · simp at hx; subst hx; exact .inl ⟨hc, rfl⟩
  constructor
  · intro hx
    obtain ⟨h1, h2⟩ := List.mem_filter.1 hx
    exact H x h1 (by simpa [zeroB] using h2)
  · intro hx
    refine List.mem_filter.2 ?_
    rcases hx with ⟨h0, rfl⟩ | ⟨h, hk⟩
    · refine ⟨?_, by simpa [zeroB] using h0⟩
      unfold rawPut
      split
      · rename_i ha
        obtain ⟨z, hz, e⟩ := List.any_eq_true.1 ha
        exact List.mem_map.2 ⟨z, hz, if_pos (isB_key.1 e)⟩
      · first | simp | (rw [if_neg h0]; simp)
    · refine ⟨?_, by simpa [zeroB] using nz x h⟩
      unfold rawPut
      split
      · exact List.mem_map.2 ⟨x, h, if_neg hk⟩
      · split
        · exact h
        · simp [h]
theorem rawSet_nz (c y n : Int) : ∀ b ∈ rawSet r c y n, b.c ≠ 0 := fun b hb => by simpa [zeroB] using (List.mem_filter.1 hb).2
/-- Sorted, what set leaves is what the register's set leaves. -/
theorem rawSet_eq (h : DistR r) (nz : ∀ b ∈ r, b.c ≠ 0) (c y n : Int) : isort ordPair rkey (rawSet r c y n) = setB (isort ordPair rkey r) c y n := by
  refine Rising.ext ordPair rkey (isort_rising _) (rising_setB (isort_rising _) c y n) fun x => ?_
  rw [mem_isort (rawSet_dist h c y n), mem_rawSet nz, mem_setB, mem_isort h]
theorem RawR.nz (R : RawR r l) : ∀ b ∈ r, b.c ≠ 0 := fun b hb => R.good.nz b (R.mem.1 hb)
theorem rawPut_len (c y n : Int) : (rawPut r c y n).length ≤ r.length + 1 := by
  unfold rawPut; split
  · simp
  · split <;> simp
theorem rawSet_len (c y n : Int) : (rawSet r c y n).length ≤ r.length + 1 := Nat.le_trans (List.length_filter_le _ _) (rawPut_len c y n)
theorem rawSet_len_eq (h : DistR r) (nz : ∀ b ∈ r, b.c ≠ 0) (c y n : Int) : (rawSet r c y n).length = (setB (isort ordPair rkey r) c y n).length := by
  rw [← rawSet_eq h nz]; exact ((isort_perm (rawSet_dist h c y n)).length_eq).symm
/-- Where the bucket is, and what it has. -/
theorem getB_idx (l : List STri) (c y : Int) : (idx (isB c y) l = -1 ∧ getB l c y = 0 ∧ l.any (isB c y) = false) ∨ ∃ (i : Nat) (x : STri), l[i]? = some x ∧ idx (isB c y) l = i ∧ getB l c y = x.c ∧ l.any (isB c y) = true ∧ rkey x = (c, y) := by
  by_cases h : l.any (isB c y) = true
  · right
    have hlt : l.findIdx (isB c y) < l.length := List.findIdx_lt_length.2 (List.any_eq_true.1 h)
    have hp := List.findIdx_getElem (w := hlt)
    refine ⟨l.findIdx (isB c y), l[l.findIdx (isB c y)], by simp [hlt], by unfold idx; rw [if_pos h], ?_, h, isB_key.1 hp⟩
    unfold getB find
    have : l.find? (fun z => decide (rkey z = (c, y))) = some l[l.findIdx (isB c y)] := by
      rw [List.find?_eq_some_iff_getElem]
      refine ⟨by simpa using isB_key.1 hp, l.findIdx (isB c y), hlt, rfl, fun j hj => ?_⟩
      have := List.not_of_lt_findIdx hj
      have hf : isB c y l[j] = false := by simpa using this
      have e : ¬ rkey l[j] = (c, y) := fun e => by rw [isB_key.2 e] at hf; cases hf
      simp [e]
    rw [this]
  · left
    have hn : ∀ z ∈ l, isB c y z = false := fun z hz => by
      cases e : isB c y z with
      | false => rfl
      | true => exact absurd (List.any_eq_true.2 ⟨z, hz, e⟩) h
    refine ⟨idx_miss hn, ?_, by simpa using h⟩
    unfold getB find
    have : l.find? (fun z => decide (rkey z = (c, y))) = none := by
      rw [List.find?_eq_none]; intro z hz; have := hn z hz; intro e; rw [isB_key.2 (by simpa using e)] at this; cases this
    rw [this]
end
end Go.Sl
end
section
/- The library's slices.SortFunc over api.Bucket, laid at this program in plain words. -/
namespace Go.Proofs
open Go.Shelf
def Try.sortBucket_ren : Go.Shelf.Ren := ⟨fun | 6 => 90 | 15 => 109 | 14 => 117 | 28 => 139 | 29 => 140 | 20 => 150 | 21 => 151 | 22 => 152 | 23 => 153 | 24 => 154 | 25 => 155 | 26 => 156 | 27 => 157 | 46 => 175 | 47 => 168 | 48 => 169 | 49 => 176 | 50 => 177 | 57 => 184 | n => n, fun | 22 => 77 | 24 => 81 | 25 => 139 | 3 => 3 | 39 => 153 | 0 => 0 | 53 => 171 | 55 => 173 | 4 => 4 | 46 => 165 | 45 => 164 | 50 => 114 | 5 => 5 | 9 => 9 | 66 => 192 | 70 => 196 | 76 => 208 | 77 => 209 | n => n, fun | n => n⟩
theorem Try.sortBucket : Go.Proofs.SlLaysF0.n6 Try.prog Try.sortBucket_ren := {
  mixed := by kernel_rfl
  f6 := ⟨Try.f90.name, by decide, Try.func90.trans (congrArg some (by kernel_rfl))⟩
  f14 := ⟨Try.f117.name, by decide, Try.func117.trans (congrArg some (by kernel_rfl))⟩
  f15 := Try.func109.trans (congrArg some (by kernel_rfl))
  f20 := ⟨Try.f150.name, by decide, Try.func150.trans (congrArg some (by kernel_rfl))⟩
  f21 := ⟨Try.f151.name, by decide, Try.func151.trans (congrArg some (by kernel_rfl))⟩
  f22 := ⟨Try.f152.name, by decide, Try.func152.trans (congrArg some (by kernel_rfl))⟩
  f23 := ⟨Try.f153.name, by decide, Try.func153.trans (congrArg some (by kernel_rfl))⟩
  f24 := ⟨Try.f154.name, by decide, Try.func154.trans (congrArg some (by kernel_rfl))⟩
  f25 := ⟨Try.f155.name, by decide, Try.func155.trans (congrArg some (by kernel_rfl))⟩
  f26 := ⟨Try.f156.name, by decide, Try.func156.trans (congrArg some (by kernel_rfl))⟩
  f27 := ⟨Try.f157.name, by decide, Try.func157.trans (congrArg some (by kernel_rfl))⟩
  f28 := Try.func139.trans (congrArg some (by kernel_rfl))
  f29 := Try.func140.trans (congrArg some (by kernel_rfl))
  f46 := ⟨Try.f175.name, by decide, Try.func175.trans (congrArg some (by kernel_rfl))⟩
  f47 := Try.func168.trans (congrArg some (by kernel_rfl))
  f48 := Try.func169.trans (congrArg some (by kernel_rfl))
  f49 := ⟨Try.f176.name, by decide, Try.func176.trans (congrArg some (by kernel_rfl))⟩
  f50 := ⟨Try.f177.name, by decide, Try.func177.trans (congrArg some (by kernel_rfl))⟩
  f57 := ⟨Try.f184.name, by decide, Try.func184.trans (congrArg some (by kernel_rfl))⟩
  t0 := Try.underlying0
  a0 := Try.isAgg0
  z0 := Try.sizeOf0
  v0 := Try.zeroValue0
  t3 := Try.underlying3
  a3 := Try.isAgg3
  z3 := Try.sizeOf3
  v3 := Try.zeroValue3
  t4 := Try.underlying4
  a4 := Try.isAgg4
  z4 := Try.sizeOf4
  v4 := Try.zeroValue4
  t5 := Try.underlying5
  a5 := Try.isAgg5
  z5 := Try.sizeOf5
  v5 := Try.zeroValue5
  t9 := Try.underlying9
  a9 := Try.isAgg9
  z9 := Try.sizeOf9
  v9 := Try.zeroValue9
  t22 := Try.underlying77
  a22 := Try.isAgg77
  z22 := Try.sizeOf77
  v22 := Try.zeroValue77
  t25 := Try.underlying139
  a25 := Try.isAgg139
  z25 := Try.sizeOf139
  v25 := Try.zeroValue139
  t39 := Try.underlying153
  a39 := Try.isAgg153
  z39 := Try.sizeOf153
  v39 := Try.zeroValue153
  t45 := Try.underlying164
  a45 := Try.isAgg164
  z45 := Try.sizeOf164
  v45 := Try.zeroValue164
  t46 := Try.underlying165
  a46 := Try.isAgg165
  z46 := Try.sizeOf165
  v46 := Try.zeroValue165
  t50 := Try.underlying114
  a50 := Try.isAgg114
  z50 := Try.sizeOf114
  v50 := Try.zeroValue114
  t53 := Try.underlying171
  a53 := Try.isAgg171
  z53 := Try.sizeOf171
  v53 := Try.zeroValue171
  t55 := Try.underlying173
  a55 := Try.isAgg173
  z55 := Try.sizeOf173
  v55 := Try.zeroValue173
  t66 := Try.underlying192
  a66 := Try.isAgg192
  z66 := Try.sizeOf192
  v66 := Try.zeroValue192
  t70 := Try.underlying196
  a70 := Try.isAgg196
  z70 := Try.sizeOf196
  v70 := Try.zeroValue196
  t76 := Try.underlying208
  a76 := Try.isAgg208
  z76 := Try.sizeOf208
  v76 := Try.zeroValue208
  t77 := Try.underlying209
  a77 := Try.isAgg209
  z77 := Try.sizeOf209
  v77 := Try.zeroValue209 }
end Go.Proofs
end
section
/- What the type table says of api.Bucket. -/
namespace Go.Proofs.Ytdcfojohgcmpcaa
open Go.RowKit Go.Sl
set_option maxHeartbeats 1000000
set_option maxRecDepth 100000
theorem info_bucket : Info Try.prog 81 (.agg #[.int .i64 0, .int .i64 0, .int .i64 0]) 3 24 := by unfold Info; kernel_rfl
end Go.Proofs.Ytdcfojohgcmpcaa
end
section
/- slices.SortFunc over api.Bucket, whatever the order. -/
namespace Go.Sl
instance : Inhabited STri := ⟨⟨0, 0, 0⟩⟩
end Go.Sl
namespace Go.Proofs.Ytdcfojohgcmpcaa
open Go.RowKit Go.Sl Go.Sort
set_option maxHeartbeats 1000000
set_option maxRecDepth 100000
theorem ins0_bucket (p : Option Addr) (cap : Nat) (fv : Value) (w : World) : Calls Try.prog 150 #[.slice p 0 cap, .int .i64 0, .int .i64 0, fv] w fun e w' => e = .returned (.tuple #[]) ∧ w = w' := by
  go_enter Try.func150, Try.ntmps150
  go_wp2
  go_loop [8] (fun i => i = .int .i64 1) (fun _ => 0)
  case atStart => exact rfl
  case round =>
    obtain rfl := hrel
    go_wp2
    go_end0
    exact ⟨rfl, rfl⟩
theorem pdq0_bucket (p : Option Addr) (cap : Nat) (lim : Int) (fv : Value) (w : World) : Calls Try.prog 117 #[.slice p 0 cap, .int .i64 0, .int .i64 0, .int .i64 lim, fv] w fun e w' => e = .returned (.tuple #[]) ∧ w = w' := by
  go_enter Try.func117, Try.ntmps117
  go_wp2
  go_loop [10, 1, 2] (fun b x y => b = .bool true ∧ x = .int .i64 0 ∧ y = .int .i64 0) (fun _ _ _ => 0)
  case atStart => exact ⟨rfl, rfl, rfl⟩
  case round =>
    obtain ⟨rfl, rfl, rfl⟩ := hrel
    go_wp2_with fail
    refine (ins0_bucket p cap fv w).mono ?_
    rintro e w' ⟨rfl, rfl⟩
    go_wp2
    exact bodyPost_ret (v := .tuple #[]) (by simp [results, Try.results117, go_sem]) rfl ⟨rfl, rfl⟩
theorem sortNone_bucket (p : Option Addr) (cap : Nat) (fv : Value) (w : World) : Calls Try.prog 90 #[.slice p 0 cap, fv] w fun e w' => e = .returned (.tuple #[]) ∧ w = w' := by
  have hl : ∀ W, Calls Try.prog 109 #[.int .u64 0] W fun e w' => e = .returned (.int .i64 (Go.Lib.bitLen 0 : Nat)) ∧ w' = W := fun W =>
    Go.Proofs.Any.bits_Len (Go.Proofs.SlLaysF0.n15.bits (P := Try.prog) (ρ := Try.sortBucket_ren) { Try.sortBucket with }) 0 W (by omega) (by omega)
  go_enter Try.func90, Try.ntmps90
  go_wp2_with fail
  refine (hl _).mono ?_
  rintro e w' ⟨rfl, rfl⟩
  go_wp2_with fail
  refine (pdq0_bucket p cap _ fv _).mono ?_
  rintro e w' ⟨rfl, rfl⟩
  go_wp2
  go_end0
  exact ⟨rfl, rfl⟩
theorem sortFunc_bucket {κ : Type} [DecidableEq κ] (od : Go.Sl.Ord κ) (key : STri → κ) (cf : STri → STri → Int) (hlt : ∀ x y, Go.Proofs.ltOf cf x y = od.lt (key x) (key y)) (g : FuncId) (eg : Enters Try.prog g)
    (hc : ∀ (x y : STri) (W : World), Calls Try.prog g #[.agg #[.int .i64 x.a, .int .i64 x.b, .int .i64 x.c], .agg #[.int .i64 y.a, .int .i64 y.b, .int .i64 y.c]] W fun e W' => e = .returned (.int .i64 (cf x y)) ∧ ∃ q os', W' = grow (W.drewN q) os')
    (A : Option Addr) (ca : Nat) (rows : List STri) (h : Hp) (w : World) (hs : h.sub w) (o : Ow kTri h A ca rows) (hn : rows.Pairwise fun x y => key x ≠ key y) (hl : rows.length ≤ 1000000) :
    Calls Try.prog 90 #[.slice A rows.length ca, .func (.func g) #[] #[]] w fun e w' => ∃ h', e = .returned (.tuple #[]) ∧ Ow kTri h' A ca (isort od key rows) ∧ Upd h h' w w' := by
  by_cases h0 : 0 < rows.length
  · obtain ⟨ad, hA⟩ := o.some_of_lt h0
    obtain ⟨b, off, cur, T, e, hbk, _, _⟩ := o.row ad hA (by have := o.le; omega)
    subst e
    subst hA
    have hH := o.holds hs h0
    have hblk : b < w.heap.size := hs.lt (by simp [hbk])
    have hcmp : Go.Proofs.CmpLays Try.prog g #[] STri.cells 3 cf b off rows.toArray.size w := fun _ _ _ _ x y => hc x y _
    have key' := Go.Proofs.AnyQ.slices_SortFunc Try.sortBucket 3 (fun w => by kernel_rfl) (fun w => by kernel_rfl) STri.cells (fun _ => rfl) (fun x v hv => by simp [STri.cells] at hv; rcases hv with rfl | rfl | rfl <;> rfl) cf (swo_ord od key _ hlt) g #[] b off ca rows.toArray w eg hcmp hH hblk (by simp; omega)
    refine key'.mono ?_
    rintro e w' ⟨he, d, n, os, hp, hso, hw⟩
    have hd : d.size = rows.length := by simpa using hp.1
    obtain ⟨h', o', u'⟩ := o.sorted hs h0 hd hw
    rw [isort_of hn hlt (by simpa using hp) (by simpa using hso)] at o'
    exact ⟨h', he, o', u'⟩
  · have hz0 : rows = [] := List.eq_nil_of_length_eq_zero (by omega)
    subst hz0
    exact (sortNone_bucket A ca _ w).mono fun _ _ ⟨he, hw⟩ => ⟨h, he, o, by subst hw; exact Upd.stay hs (Below.refl _ _)⟩
end Go.Proofs.Ytdcfojohgcmpcaa
end
section
/- slices.IndexFunc over api.Bucket, whatever the predicate. -/
namespace Go.Proofs.Ytdcfojohgcmpcaa
open Go.RowKit Go.Sl
set_option maxHeartbeats 1000000
set_option maxRecDepth 100000
theorem indexFunc_bucket (g : FuncId) (lb : Array Value) (eg : Enters Try.prog g) (p : STri → Bool) (A : Option Addr) (ca : Nat) (xs : List STri) (h : Hp) (w : World) (hs : h.sub w) (sx : Sl kTri h A ca xs)
    (hp : ∀ (x : STri) (W : World), Below w.heap.size w W → Calls Try.prog g (#[.agg #[.int .i64 x.a, .int .i64 x.b, .int .i64 x.c]] ++ lb) W fun e W' => e = .returned (.bool (p x)) ∧ Below W.heap.size W W') :
    Calls Try.prog 118 #[.slice A xs.length ca, .func (.func g) #[] lb] w fun e w' => e = .returned (.int .i64 (idx p xs)) ∧ Below w.heap.size w w' := by
  have m1 := sx.small
  have eg' := fun (args : Array Value) (w : World) => eg args w
  go_enter Try.func118, Try.ntmps118
  go_wp2
  go_loopw [8] (fun i wr => ∃ (j : Nat), j ≤ xs.length ∧ i = .int .i64 j ∧ Hid (∀ y ∈ xs.take j, p y = false) ∧ Below w.heap.size w wr) (fun i _ => xs.length - (intOf i).toNat)
  case atStart => exact ⟨0, by omega, rfl, by unfold Hid; simp, Below.refl _ _⟩
  case round =>
    obtain ⟨j, hj, rfl, hn, hb⟩ := hrel
    by_cases hlt : j < xs.length
    · obtain ⟨x, hx⟩ := some_of_lt hlt
      obtain ⟨b1, o1, rfl, c1, c2, c3⟩ := sx.tri (hs.of_below hb) hx
      have i1 : (0 : Int) ≤ (j : Int) := by omega
      have i2 : (j : Int) < (xs.length : Int) := by omega
      have hpx := Lib.hid (hp x wr hb)
      by_cases hpp : p x = true
      · have HF : Hid (idx p xs = j) := idx_hit hn.out hx.out hpp
        go_wp2_with fail
        refine hpx.out.mono ?_
        rintro e w1 ⟨rfl, b1⟩
        go_wp2
        go_ret
        exact ⟨by rw [HF.out]; rfl, hb.trans (b1.mono hb.size)⟩
      · have hpf : p x = false := by simpa using hpp
        have HN : Hid (∀ y ∈ xs.take (j + 1), p y = false) := by
          intro y hy
          rw [take_next hx] at hy
          rcases List.mem_append.1 hy with hy | hy
          · exact hn.out y hy
          · simp at hy; subst hy; exact hpf
        clear hpp
        go_wp2_with fail
        refine hpx.out.mono ?_
        rintro e w1 ⟨rfl, b1⟩
        go_wp2
        go_roundw
        case rel => exact ⟨j + 1, by omega, by go_num, HN, hb.trans (b1.mono hb.size)⟩
        case measure => simp [intOf]; omega
    · have HF : Hid (idx p xs = -1) := idx_miss (fun y hy => hn.out y (by rw [List.take_of_length_le (by omega)]; exact hy))
      go_wp2
      go_ret
      exact ⟨by rw [HF.out]; rfl, hb⟩
end Go.Proofs.Ytdcfojohgcmpcaa
end
section
/- slices.DeleteFunc over api.Bucket, whatever the predicate. -/
namespace Go.Proofs.Ytdcfojohgcmpcaa
open Go.RowKit Go.Sl
set_option maxHeartbeats 1000000
set_option maxRecDepth 100000
theorem deleteFunc_bucket (g : FuncId) (lb : Array Value) (eg : Enters Try.prog g) (p : STri → Bool) (A : Option Addr) (ca : Nat) (xs : List STri) (h : Hp) (w : World) (hs : h.sub w) (o : Ow kTri h A ca xs) (hl : xs.length ≤ 1000000)
    (hp : ∀ (x : STri) (W : World) (k : Hp), Upd h k w W → Calls Try.prog g (#[.agg #[.int .i64 x.a, .int .i64 x.b, .int .i64 x.c]] ++ lb) W fun e W' => e = .returned (.bool (p x)) ∧ Below W.heap.size W W') :
    Calls Try.prog 115 #[.slice A xs.length ca, .func (.func g) #[] lb] w fun e w' => ∃ h', e = .returned (.slice A (xs.filter fun x => !p x).length ca) ∧ Ow kTri h' A ca (xs.filter fun x => !p x) ∧ Upd h h' w w' := by
  have m1 := o.small
  have eg' := fun (args : Array Value) (w : World) => eg args w
  have IC := indexFunc_bucket g lb eg p A ca xs h w hs o.sl (fun x W hW => hp x W h (Upd.stay hs hW))
  by_cases hany : xs.any p = true
  · have hlt : xs.findIdx p < xs.length := List.findIdx_lt_length.2 (List.any_eq_true.1 hany)
    obtain ⟨x0, hx0⟩ := some_of_lt hlt
    have hp0 : p x0 = true := by
      have := List.findIdx_getElem (w := hlt); rw [(List.getElem?_eq_some_iff.1 hx0.out).2] at this; exact this
    have hn0 : ∀ y ∈ xs.take (xs.findIdx p), p y = false := fun y hy => by
      obtain ⟨q, hq, rfl⟩ := List.mem_take_iff_getElem.1 hy
      have := List.not_of_lt_findIdx (show q < xs.findIdx p by omega)
      simpa using this
    have hF : idx p xs = (xs.findIdx p : Nat) := by unfold idx; rw [if_pos hany]
    rw [hF] at IC
    have hS : Hid ((xs.take (xs.findIdx p)) = (xs.take (xs.findIdx p + 1)).filter fun x => !p x) := by
      unfold Hid
      rw [filter_take_next hx0, hp0]
      simp only [Bool.not_true, Bool.false_eq_true, if_false, List.append_nil]
      exact (List.filter_eq_self.2 fun y hy => by simp [hn0 y hy]).symm
    generalize xs.findIdx p = i0 at *
    obtain ⟨ad, hA⟩ := o.some_of_lt hlt
    obtain ⟨b, off, cur, T, e, hbk, _, _⟩ := o.row ad hA (by have := o.le; omega)
    subst e
    subst hA
    have i1 : (0 : Int) ≤ (i0 : Int) := by omega
    have i2 : (i0 : Int) < (xs.length : Int) := by omega
    have hq0 : ((i0 : Int) == -1) = false := by simp
    clear hany hx0 hp0 hn0 hF hbk
    go_enter Try.func115, Try.ntmps115
    go_wp2_with fail
    refine IC.mono ?_
    rintro e w1 ⟨rfl, b1⟩
    have E1 := Upd.stay hs b1
    clear IC
    go_wp2
    go_loopw [5, 6] (fun iv jv wr => ∃ (i j : Nat) (zs : List STri) (h' : Hp), iv = .int .i64 i ∧ jv = .int .i64 j ∧ i < j ∧ j ≤ xs.length ∧ Hid (zs.length = xs.length) ∧ Hid (zs.take i = (xs.take j).filter fun x => !p x) ∧ Hid (∀ q, j ≤ q → zs[q]? = xs[q]?) ∧ Ow kTri h' (some ⟨b, off, none⟩) ca zs ∧ Upd h h' w wr) (fun _ jv _ => xs.length - (intOf jv).toNat)
    case atStart => exact ⟨i0, i0 + 1, xs, h, rfl, by go_num, by omega, by omega, rfl, hS, fun _ _ => rfl, o, E1⟩
    case round =>
      clear E1 hS i1 i2 hlt b1
      obtain ⟨i, j, zs, h', rfl, rfl, hij, hj, hzl, hzt, hzd, oz, uz⟩ := hrel
      by_cases hlt : j < xs.length
      · obtain ⟨x, hx⟩ := some_of_lt hlt
        have hzx : Hid (zs[j]? = some x) := by unfold Hid; rw [hzd.out j (Nat.le_refl _)]; exact hx.out
        obtain ⟨b1, o1, e1, c1, c2, c3⟩ := oz.sl.tri uz.sub hzx
        cases e1
        obtain ⟨y, hy⟩ := some_of_lt (show i < zs.length by rw [hzl.out]; omega)
        obtain ⟨_, _, e2, d1, d2, d3⟩ := oz.sl.tri uz.sub hy
        cases e2
        have hlz : i < zs.length := (List.getElem?_eq_some_iff.1 hy.out).1
        have hfr := oz.cell_free uz.sub (lt_of_some hy.out)
        have hb0 : b < wr.heap.size := World.block_lt_of_cell? _ _ c1
        have i1 : (0 : Int) ≤ (j : Int) := by omega
        have i2 : (j : Int) < (xs.length : Int) := by omega
        have i3 : (0 : Int) ≤ (i : Int) := by omega
        have i4 : (i : Int) < (xs.length : Int) := by omega
        have hpx := fun (W : World) (hW : Below wr.heap.size wr W) => hp x W h' (uz.after hW)
        have HT := Lib.hid (filter_take_next (p := fun x => !p x) hx)
        have ST : ∀ V : World, h'.sub V → ∃ k, Ow kTri k (some ⟨b, off, none⟩) ca (zs.set i x) ∧ Upd h' k V (((V.setCell ⟨b, off + i * 3, none⟩ (.int .i64 x.a)).setCell ⟨b, off + i * 3 + 1, none⟩ (.int .i64 x.b)).setCell ⟨b, off + i * 3 + 2, none⟩ (.int .i64 x.c)) := fun V S => by
          obtain ⟨k1, p1, u1⟩ := Ow.set (x' := ⟨x.a, y.b, y.c⟩) (v := .int .i64 x.a) (j := 0) oz S hy.out (by decide) rfl
          obtain ⟨k2, p2, u2⟩ := Ow.set (x' := ⟨x.a, x.b, y.c⟩) (v := .int .i64 x.b) (j := 1) p1 (u1.sub) (List.getElem?_set_self hlz) (by decide) rfl
          obtain ⟨k3, p3, u3⟩ := Ow.set (x' := ⟨x.a, x.b, x.c⟩) (v := .int .i64 x.c) (j := 2) p2 (u2.sub) (List.getElem?_set_self (by simpa using hlz)) (by decide) rfl
          rw [List.set_set, List.set_set] at p3
          exact ⟨k3, p3, ((u1.trans u2).trans u3)⟩
        cases hpp : p x with
        | true =>
          rw [hpp] at hpx HT
          have HT2 : Hid ((xs.take (j + 1)).filter (fun x => !p x) = (xs.take j).filter fun x => !p x) := by unfold Hid; rw [HT.out]; simp
          clear hpp HT ST hlz hy hfr
          go_wp2_with fail
          refine (hpx _ (by repeat (first | exact Below.refl _ _ | apply Below.drew | refine Below.alloc ?_ (by simp) _))).mono ?_
          rintro e w2 ⟨rfl, b2⟩
          go_wp2
          go_roundw
          case rel => exact ⟨i, j + 1, zs, h', rfl, by go_num, by omega, by omega, hzl, by unfold Hid; rw [HT2.out]; exact hzt.out, fun q hq => hzd.out q (by omega), oz, uz.after (((Below.refl _ _).alloc (Nat.le_refl _) _).trans (b2.mono (by simp)))⟩
          case measure => simp [intOf]; omega
        | false =>
          rw [hpp] at hpx HT
          have HT2 : Hid ((xs.take (j + 1)).filter (fun x => !p x) = (xs.take j).filter (fun x => !p x) ++ [x]) := by unfold Hid; rw [HT.out]; simp
          have HZ : Hid ((zs.set i x).take (i + 1) = zs.take i ++ [x]) := by
            unfold Hid
            rw [take_next (xs := zs.set i x) (x := x) (show Hid ((zs.set i x)[i]? = some x) from List.getElem?_set_self hlz), List.take_set_of_le (Nat.le_refl _)]
          clear hpp HT hlz hy
          go_wp2_with fail
          refine (hpx _ (by repeat (first | exact Below.refl _ _ | apply Below.drew | refine Below.alloc ?_ (by simp) _))).mono ?_
          rintro e w2 ⟨rfl, b2⟩
          have hz2 := b2.size
          simp at hz2
          have bb := ((Below.refl wr.heap.size wr).alloc (Nat.le_refl _) (.cells #[.int .i64 x.a, .int .i64 x.b, .int .i64 x.c] 81)).trans (b2.mono (by simp))
          have q1 : w2.cell? ⟨wr.heap.size, 0, none⟩ = some (.int .i64 x.a) := (b2.cell (by simp)).trans (by rw [cell_new rfl]; rfl)
          have q2 : w2.cell? ⟨wr.heap.size, 1, none⟩ = some (.int .i64 x.b) := (b2.cell (by simp)).trans (by rw [cell_new rfl]; rfl)
          have q3 : w2.cell? ⟨wr.heap.size, 2, none⟩ = some (.int .i64 x.c) := (b2.cell (by simp)).trans (by rw [cell_new rfl]; rfl)
          have fr2 : ∀ n, w2.frozen? ⟨b, n, none⟩ = false := fun n => (bb.frozen (p := ⟨b, n, none⟩) hb0).trans (hfr n)
          have e1 : w2.cell? ⟨b, off + i * 3, none⟩ = some (.int .i64 y.a) := (bb.cell (p := ⟨b, off + i * 3, none⟩) hb0).trans d1
          have e2 : w2.cell? ⟨b, off + i * 3 + 1, none⟩ = some (.int .i64 y.b) := (bb.cell (p := ⟨b, off + i * 3 + 1, none⟩) hb0).trans d2
          have e3 : w2.cell? ⟨b, off + i * 3 + 2, none⟩ = some (.int .i64 y.c) := (bb.cell (p := ⟨b, off + i * 3 + 2, none⟩) hb0).trans d3
          obtain ⟨k, ok, uk⟩ := ST w2 (uz.sub.of_below bb)
          go_wp2
          go_roundw
          case rel => exact ⟨i + 1, j + 1, _, k, by go_num, by go_num, by omega, by omega, by unfold Hid; rw [List.length_set]; exact hzl.out, by unfold Hid; rw [HZ.out, HT2.out, hzt.out], fun q hq => by rw [List.getElem?_set_ne (by omega)]; exact hzd.out q (by omega), ok, (uz.after bb).trans uk⟩
          case measure => simp [intOf]; omega
      · obtain rfl : j = xs.length := by omega
        rw [List.take_length] at hzt
        obtain ⟨w2, h2, hrun, o2, u2⟩ := run_clear_rest (P := Try.prog) (t := 77) (e := 81) (ty := 0) (z := .agg #[.int .i64 0, .int .i64 0, .int .i64 0]) Try.underlying77 (fun w => by kernel_rfl) (by rfl) (List.all_eq_true.1 (show ((.agg #[.int .i64 0, .int .i64 0, .int .i64 0] : Value).cells.toList.all fun u => u.oneCell') = true from rfl)) oz uz.sub (i := i) (by rw [hzl.out]; omega) (ca - i)
        rw [hzl.out, show kTri.size = 3 from rfl] at hrun
        rw [hzt.out] at o2
        have hcap := oz.le
        rw [hzl.out] at hcap
        have i1 : (0 : Int) ≤ (i : Int) := by omega
        have i2 : (i : Int) ≤ (xs.length : Int) := by omega
        have i3 : (i : Int) ≤ (ca : Int) := by omega
        have hne : ¬ ca = i := by omega
        have hL : Hid ((xs.filter fun x => !p x).length = i) := by
          unfold Hid; rw [← hzt.out, List.length_take, hzl.out]; omega
        clear hlt
        go_wp2
        go_ret
        exact ⟨h2, by rw [hL.out]; rfl, o2, uz.trans u2⟩
  · have hn : ∀ y ∈ xs, p y = false := fun y hy => by
      cases e : p y with
      | false => rfl
      | true => exact absurd (List.any_eq_true.2 ⟨y, hy, e⟩) hany
    have hF : idx p xs = -1 := idx_miss hn
    have hfl : Hid ((xs.filter fun x => !p x) = xs) := List.filter_eq_self.2 fun y hy => by simp [hn y hy]
    rw [hF] at IC
    clear hany hF hn
    go_enter Try.func115, Try.ntmps115
    go_wp2_with fail
    refine IC.mono ?_
    rintro e w1 ⟨rfl, b1⟩
    go_wp2
    go_ret
    exact ⟨h, by rw [hfl.out]; rfl, by rw [hfl.out]; exact o, Upd.stay hs b1⟩
end Go.Proofs.Ytdcfojohgcmpcaa
end
section
/- slices.Clone over api.Bucket. -/
namespace Go.Proofs.Ytdcfojohgcmpcaa
open Go.RowKit Go.Sl
set_option maxHeartbeats 1000000
set_option maxRecDepth 100000
theorem clone_bucket (A : Option Addr) (ca : Nat) (xs : List STri) (h : Hp) (w : World) (hs : h.sub w) (sx : Sl kTri h A ca xs) (hl : xs.length ≤ 1000000) :
    Calls Try.prog 89 #[.slice A xs.length ca] w fun e w' => ∃ C cap h', e = .returned (.slice C xs.length cap) ∧ Ow kTri h' C cap xs ∧ Upd Hp.none h' w w' := by
  cases A with
  | none =>
    have h0 := sx.nil rfl
    have h1 := sx.le
    obtain rfl : xs = [] := List.eq_nil_of_length_eq_zero (by omega)
    subst h0
    have hn : ∀ W, (binOp .eql 77 (.slice none 0 0) (.slice none 0 0)).run Try.prog W = .ok (.bool true) W := fun W => Lib.run_eql_slice_nil_nil W _ _ Try.underlying77
    go_enter Try.func89, Try.ntmps89
    go_wp2
    go_ret
    exact ⟨none, 0, Hp.none, rfl, Ow.none _ _, Upd.of_below (Below.refl _ _)⟩
  | some ad =>
    have hn : ∀ W, (binOp .eql 77 (.slice (some ad) xs.length ca) (.slice none 0 0)).run Try.prog W = .ok (.bool false) W := fun W => Lib.run_eql_slice_some_nil W _ _ _ Try.underlying77
    go_enter Try.func89, Try.ntmps89
    go_wp2_with (at_builtin; refine wpList_clone Try.underlying77 info_bucket (by rfl) (by rfl) rfl xs.length ca (by rfl) (by rfl) rfl kTri_flat sx (hs.of_below (by repeat (first | exact Below.refl _ _ | apply Below.drew | refine Below.alloc ?_ (by simp) _))) (by omega) (by omega) ?_; intro C' cap' w1 h1 ho1 hu1)
    go_ret
    exact ⟨C', cap', h1, rfl, ho1, hu1.before (by repeat (first | exact Below.refl _ _ | apply Below.drew | refine Below.alloc ?_ (by simp) _))⟩
end Go.Proofs.Ytdcfojohgcmpcaa
end
section
/- The walk of ref01.Money. -/
namespace Go.Proofs.Ytdcfojohgcmpcaa
open Go.RowKit Go.Sl
set_option maxHeartbeats 400000
theorem refMoney_calls (n : Int) (w : World) : Calls Try.prog 84 #[.int .i64 n] w fun e w' => e = .returned (.bool (money n)) ∧ w = w' := by
  go_enter Try.func84, Try.ntmps84
  go_wp2
  all_goals
    go_ret
    exact ⟨by simp [money]; omega, rfl⟩
end Go.Proofs.Ytdcfojohgcmpcaa
end
section
/- The walks of the reference's register: Get, Total, set. -/
namespace Go.Sl
open Go Go.RowKit
theorem find_hit {κ α : Type} [DecidableEq κ] {key : α → κ} {k : κ} {l : List α} {j : Nat} {x : α} (h : ∀ y ∈ l.take j, key y ≠ k) (hx : l[j]? = some x) (hk : key x = k) : find key k l = some x := by
  have hj := List.getElem?_eq_some_iff.1 hx
  have e : l = l.take j ++ x :: l.drop (j + 1) := by
    have := List.take_append_drop j l
    rw [List.drop_eq_getElem_cons hj.1, hj.2] at this; exact this.symm
  unfold find
  rw [e, List.find?_append]
  have h2 : (l.take j).find? (fun y => decide (key y = k)) = none := by
    rw [List.find?_eq_none]; intro y hy; simpa using h y hy
  rw [h2]; simp [hk]
theorem find_miss {κ α : Type} [DecidableEq κ] {key : α → κ} {k : κ} {l : List α} (h : ∀ y ∈ l, key y ≠ k) : find key k l = none := by
  unfold find; rw [List.find?_eq_none]; intro y hy; simpa using h y hy
theorem drop_next {α : Type} {xs : List α} {i : Nat} {x : α} (h : Hid (xs[i]? = some x)) : xs.drop i = x :: xs.drop (i + 1) := by
  have h2 := List.getElem?_eq_some_iff.1 h.out
  rw [List.drop_eq_getElem_cons h2.1, h2.2]
/-- A register's own struct. -/
def kReg : Kd (List STri) where
  size := 1
  K h l cs := ∃ A cap, cs = [.slice A l.length cap] ∧ Ow kTri h A cap l
  pos := by decide
  len := by rintro h x cs ⟨A, cap, rfl, _⟩; rfl
  one := by rintro h x cs ⟨A, cap, rfl, _⟩ u hu; simp at hu; subst hu; rfl
  mono := by rintro h h' x cs ⟨A, cap, e, s⟩ l; exact ⟨A, cap, e, s.mono l⟩
theorem Pt.reg {T : TypeId} {h : Hp} {b : Nat} {l : List STri} {w : World} (p : Pt kReg T h b l) (s : h.sub w) : ∃ A ca, w.cell? ⟨b, 0, none⟩ = some (.slice A l.length ca) ∧ Sl kTri h A ca l := by
  obtain ⟨cs, hb, A, ca, rfl, ow⟩ := p
  exact ⟨A, ca, by rw [cell_of_row w b 0 _ _ _ (s b _ hb)]; rfl, ow.sl.mono (Hp.del_le _ _)⟩
end Go.Sl
namespace Go.Proofs.Ytdcfojohgcmpcaa
open Go.RowKit Go.Sl
set_option maxHeartbeats 1000000
set_option maxRecDepth 100000
theorem refGet_calls (p : Nat) (A : Option Addr) (ca : Nat) (l : List STri) (c y : Int) (h : Hp) (w : World) (hs : h.sub w) (hc : w.cell? ⟨p, 0, none⟩ = some (.slice A l.length ca)) (sx : Sl kTri h A ca l) :
    Calls Try.prog 47 #[.pointer (some ⟨p, 0, none⟩), .int .i64 c, .int .i64 y] w fun e w' => e = .returned (.int .i64 (getB l c y)) ∧ Below w.heap.size w w' := by
  have m1 := sx.small
  go_enter Try.func47, Try.ntmps47
  go_wp2
  go_loopw [14] (fun i wr => ∃ (j : Nat), j ≤ l.length ∧ i = .int .i64 j ∧ Hid (∀ z ∈ l.take j, rkey z ≠ (c, y)) ∧ Below w.heap.size w wr) (fun i _ => l.length - (intOf i).toNat)
  case atStart => exact ⟨0, by omega, rfl, by unfold Hid; simp, Below.refl _ _⟩
  case round =>
    obtain ⟨j, hj, rfl, hn, hb⟩ := hrel
    by_cases hlt : j < l.length
    · obtain ⟨x, hx⟩ := some_of_lt hlt
      obtain ⟨b1, o1, rfl, c1, c2, c3⟩ := sx.tri (hs.of_below hb) hx
      have i1 : (0 : Int) ≤ (j : Int) := by omega
      have i2 : (j : Int) < (l.length : Int) := by omega
      have HN : rkey x ≠ (c, y) → Hid (∀ z ∈ l.take (j + 1), rkey z ≠ (c, y)) := fun h z hz => by
        rw [take_next hx] at hz
        rcases List.mem_append.1 hz with hz | hz
        · exact hn.out z hz
        · simp at hz; rw [hz]; exact h
      by_cases ha : x.a = c
      · by_cases hbb : x.b = y
        · have HF : Hid (getB l c y = x.c) := by
            unfold Hid getB; rw [find_hit hn.out hx.out (by simp [rkey, ha, hbb])]
          have t1 : (x.a == c) = true := by simpa using ha
          have t2 : (x.b == y) = true := by simpa using hbb
          clear ha hbb HN
          go_wp2
          go_ret
          exact ⟨by rw [HF.out]; rfl, hb.alloc hb.size _⟩
        · have HN' := HN (by simp [rkey, hbb])
          have t1 : (x.a == c) = true := by simpa using ha
          have t2 : (x.b == y) = false := by simpa using hbb
          clear ha hbb HN
          go_wp2
          go_roundw
          case rel => exact ⟨j + 1, by omega, by go_num, HN', hb.alloc hb.size _⟩
          case measure => simp [intOf]; omega
      · have HN' := HN (by simp [rkey, ha])
        have t1 : (x.a == c) = false := by simpa using ha
        clear ha HN
        go_wp2
        go_roundw
        case rel => exact ⟨j + 1, by omega, by go_num, HN', hb.alloc hb.size _⟩
        case measure => simp [intOf]; omega
    · have HF : Hid (getB l c y = 0) := by
        unfold Hid getB; rw [find_miss fun z hz => hn.out z (by rw [List.take_of_length_le (by omega)]; exact hz)]
      go_wp2
      go_ret
      exact ⟨by rw [HF.out]; rfl, hb⟩
theorem sumC_snoc (l : List STri) (x : STri) : sumC (l ++ [x]) = sumC l + x.c := by simp [sumC]
theorem refTotal_calls (p : Nat) (A : Option Addr) (ca : Nat) (l : List STri) (h : Hp) (w : World) (hs : h.sub w) (hc : w.cell? ⟨p, 0, none⟩ = some (.slice A l.length ca)) (sx : Sl kTri h A ca l) (hl : l.length ≤ 1000) (hm : ∀ b ∈ l, -100000000000 ≤ b.c ∧ b.c ≤ 100000000000) :
    Calls Try.prog 46 #[.pointer (some ⟨p, 0, none⟩)] w fun e w' => e = .returned (.int .i64 (sumC l)) ∧ Below w.heap.size w w' := by
  have m1 := sx.small
  have HM := Lib.hid hm
  clear hm
  go_enter Try.func46, Try.ntmps46
  go_wp2
  go_loopw [3, 11] (fun s i wr => ∃ (j : Nat), j ≤ l.length ∧ i = .int .i64 j ∧ s = .int .i64 (sumC (l.take j)) ∧ Below w.heap.size w wr) (fun _ i _ => l.length - (intOf i).toNat)
  case atStart => exact ⟨0, by omega, rfl, rfl, Below.refl _ _⟩
  case round =>
    obtain ⟨j, hj, rfl, rfl, hb⟩ := hrel
    by_cases hlt : j < l.length
    · obtain ⟨x, hx⟩ := some_of_lt hlt
      obtain ⟨b1, o1, rfl, c1, c2, c3⟩ := sx.tri (hs.of_below hb) hx
      have i1 : (0 : Int) ≤ (j : Int) := by omega
      have i2 : (j : Int) < (l.length : Int) := by omega
      have q1 := HM.out x (List.mem_of_getElem? hx.out)
      have q2 := sumC_bd (m := 100000000000) (by omega) (l.take j) fun b hb => HM.out b (List.mem_of_mem_take hb)
      rw [List.length_take] at q2
      obtain ⟨q3, q4⟩ : -1000000000000000 ≤ sumC (l.take j) ∧ sumC (l.take j) ≤ 1000000000000000 := by omega
      clear q2
      have HT : Hid (sumC (l.take (j + 1)) = sumC (l.take j) + x.c) := by unfold Hid; rw [take_next hx, sumC_snoc]
      go_wp2
      go_roundw
      case rel => exact ⟨j + 1, by omega, by go_num, by rw [HT.out], hb.alloc hb.size _⟩
      case measure => simp [intOf]; omega
    · obtain rfl : j = l.length := by omega
      rw [List.take_length]
      go_wp2
      go_ret
      exact ⟨rfl, hb⟩
theorem refBucket_calls (c y : Int) (w : World) : Calls Try.prog 93 #[.int .i64 c, .int .i64 y] w fun e w' => e = .returned (.bool (bucketOk c y)) ∧ w = w' := by
  have Y : ∀ (y : Int) (w : World), Calls Try.prog 120 #[.int .i64 y] w fun e w' => e = .returned (.bool (decide (0 ≤ y ∧ y ≤ 99))) ∧ w = w' := fun y w => by
    go_enter Try.func120, Try.ntmps120
    go_wp2
    all_goals
      go_ret
      exact ⟨by simp; omega, rfl⟩
  have HB : ∀ b : Bool, b = decide (0 ≤ y ∧ y ≤ 99) → Hid (bucketOk c y = (decide (1 ≤ c ∧ c ≤ 9) && b)) := fun b hb => by
    unfold Hid bucketOk; rw [hb, Bool.eq_iff_iff]; simp; omega
  have YC := Y y
  generalize hq : decide (0 ≤ y ∧ y ≤ 99) = q at *
  have HB' := HB q rfl
  clear HB hq Y
  go_enter Try.func93, Try.ntmps93
  go_wp2_with (go_at_call 120; refine (YC _).mono ?_; rintro e w' ⟨rfl, rfl⟩)
  all_goals
    go_ret
    exact ⟨by rw [HB'.out]; simp; omega, rfl⟩
end Go.Proofs.Ytdcfojohgcmpcaa
end
