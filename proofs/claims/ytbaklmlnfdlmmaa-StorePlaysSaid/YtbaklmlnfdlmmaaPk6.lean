/- Walks and plain facts that the laws of this seat share, part 6: contracts of functions, each said at its theorem. -/
import Derived.Test.YtbaklmlnfdlmmaaPk5
import Derived.Deep.QuietTactic
import Derived.Deep.RegionHeld3
import Derived.WalkKit
set_option linter.all false
section
/- Small structs of a body's own, each in a block of its own. No program is named here. -/
namespace Go.Sl
open Go Go.RowKit
section
variable {h : Hp} {w0 w : World} {l : List Hp} {b : Nat} {cs : List Value} {T : TypeId}
abbrev Hp.box (b : Nat) (cs : List Value) (T : TypeId) : Hp := Hp.one b (.cells cs.toArray T (0, 0))
theorem Hp.none_put (b : Nat) (o : Obj) : Hp.none.put b o = Hp.one b o := by funext q; simp [Hp.put, Hp.one, Hp.none]
theorem Upd.oneSet (s : (Hp.box b cs T).sub w) (j : Nat) (v : Value) : Upd (Hp.box b cs T) (Hp.box b (cs.set j v) T) w (w.setCell ⟨b, j, .none⟩ v) := by
  have h := (Upd.field (h := Hp.box b cs T) (hr := Hp.none) (r' := Hp.none) (w1 := w) (v := v) j (Hp.one_self b _) s (Hp.none_le _) (Upd.of_below (Below.refl _ _))).1
  rw [Hp.none_put] at h; exact h
theorem Env.weak {k : Hp} (E : Env w0 w l) (i : Nat) (hi : l[i]? = some h) (hk : k.le h) : Env w0 w (l.set i k) := E.upd i hi ⟨rfl, rfl, rfl, Nat.le_refl _, fun _ _ _ => rfl, (E.sub i hi).le hk, fun q hq => .inl fun hn => by
  cases hh : k q with
  | none => exact hq hh
  | some o => rw [hk q o hh] at hn; cases hn⟩
/-- A field is stored. -/
theorem Env.cellset (E : Env w0 w l) (i : Nat) (hi : l[i]? = some (Hp.box b cs T)) (j : Nat) (v : Value) : Env w0 (w.setCell ⟨b, j, .none⟩ v) (l.set i (Hp.box b (cs.set j v) T)) := E.upd i hi (Upd.oneSet (E.sub i hi) j v)
theorem Env.cell (E : Env w0 w l) (i : Nat) (hi : l[i]? = some (Hp.box b cs T)) (j : Nat) {v : Value} (hv : cs[j]? = some v) : w.cell? ⟨b, j, .none⟩ = some v := by
  rw [cell_of_row w b j _ _ _ (E.sub i hi b _ (Hp.one_self b _))]; simpa using hv
theorem Env.free (E : Env w0 w l) (i : Nat) (hi : l[i]? = some (Hp.box b cs T)) (n : Nat) : w.frozen? ⟨b, n, .none⟩ = false := frozen_of_row w b n _ T (E.sub i hi b _ (Hp.one_self b _))
end
theorem Env.swap2 {w0 w : World} {a b c d : Hp} (E : Env w0 w [a, b, c, d]) : Env w0 w [a, b, d, c] :=
  ⟨⟨E.own.1, fun k hk => E.own.2.1 k (by simp at hk ⊢; rcases hk with h | h | h <;> simp [h]), E.own.2.2.1, fun k hk => E.own.2.2.2.1 k (by simp at hk ⊢; rcases hk with h | h <;> simp [h]), E.own.2.2.2.2.swap⟩, fun h m => E.fr h (by simp at m ⊢; rcases m with h | h | h | h <;> simp [h]), E.low⟩
theorem Below.drN {B : Nat} {a w : World} (h : Below B a w) (n : Nat) : Below B a (w.drewN n) := h.trans ⟨rfl, rfl, rfl, Nat.le_refl _, fun _ _ => rfl⟩
/-- What was made since the start. -/
theorem Env.made {w0 w : World} {l : List Hp} {h : Hp} (E : Env w0 w l) (m : h ∈ l) : Upd Hp.none h w0 w := ⟨E.low.os, E.low.tape, E.low.output, E.low.size, fun q hq _ => E.low.block q hq, E.own.mem h m, fun q hq => .inr (E.fr h m q hq)⟩
/-- A call that turns nothing, in a quiet region: the first one of a walk, or a later one. -/
theorem quiet_one {P : Program} {f : FuncId} {args : Array Value} {W : World} {n : Nat} {v : Value} (h : Calls P f args (W.drewN n) fun e w' => e = .returned v ∧ W.drewN n = w') :
    Calls P f args (W.drewN n) fun e w' => e = .returned v ∧ ∃ m, w' = W.drewN m := h.mono fun _ _ ⟨a, b⟩ => ⟨a, n, b.symm⟩
theorem quiet_more {P : Program} {f : FuncId} {args : Array Value} {W : World} {k n : Nat} {v : Value} (h : Calls P f args (W.drewN (k + n)) fun e w' => e = .returned v ∧ W.drewN (k + n) = w') :
    Calls P f args (W.drewN (k + n)) fun e w' => e = .returned v ∧ ∃ m, w' = W.drewN (k + m) := h.mono fun _ _ ⟨a, b⟩ => ⟨a, n, b.symm⟩
end Go.Sl
end
section
/- The walks of the document's Same of lines, and of its store's all, Trial, Balance. -/
namespace Go.Proofs.Ytbaklmlnfdlmmaa
open Go.RowKit Go.Sl
set_option maxHeartbeats 1000000
set_option maxRecDepth 100000
theorem refSame_calls (A B : Option Addr) (ca cb : Nat) (xs ys : List SItem) (h k : Hp) (w : World) (hs : h.sub w) (ks : k.sub w) (sx : Sl kItem h A ca xs) (sy : Sl kItem k B cb ys) :
    Calls Try.prog 27 #[.slice A xs.length ca, .slice B ys.length cb] w fun e w' => e = .returned (.bool (eqB xs ys)) ∧ Below w.heap.size w w' := by
  have m1 := sx.small
  have m2 := sy.small
  by_cases hl : xs.length = ys.length
  · have hl1 : ((xs.length : Int) == (ys.length : Int)) = true := by simp [hl]
    have hl2 : ((xs.length : Int) != (ys.length : Int)) = false := by simp [hl]
    have hL := Lib.hid hl
    clear hl
    go_enter Try.func27, Try.ntmps27
    go_wp2
    clear hl1 hl2
    go_loopw [13] (fun i wr => ∃ j : Nat, j ≤ xs.length ∧ i = .int .i64 j ∧ Hid (xs.take j = ys.take j) ∧ Below w.heap.size w wr) (fun i _ => xs.length - (intOf i).toNat)
    case atStart => exact ⟨0, by omega, rfl, rfl, Below.refl _ _⟩
    case round =>
      obtain ⟨j, hj, rfl, he, hb⟩ := hrel
      by_cases hlt : j < xs.length
      · have hlt2 : j < ys.length := by have := hL.out; omega
        obtain ⟨x, hx⟩ := some_of_lt hlt
        obtain ⟨y, hy⟩ := some_of_lt hlt2
        obtain ⟨b1, o1, rfl, c1, c2⟩ := sx.item (hs.of_below hb) hx
        obtain ⟨b2, o2, rfl, d1, d2⟩ := sy.item (ks.of_below hb) hy
        have hn := ne_line x y
        have i1 : (0 : Int) ≤ (j : Int) := by omega
        have i2 : (j : Int) < (xs.length : Int) := by omega
        have i3 : (j : Int) < (ys.length : Int) := by omega
        have hE := take_both hx hy
        by_cases hxy : x = y
        · have hd := neB_f hxy
          have hE2 := hE.2 ⟨he, hxy⟩
          clear hxy hE
          go_wp2
          go_region_held3 (fun w' => w'.cell? ⟨b1, o1 + j * 2, none⟩ = some (.int .i64 x.kind) ∧ w'.cell? ⟨b1, o1 + j * 2 + 1, none⟩ = some (.int .i64 x.amt) ∧ w'.cell? ⟨b2, o2 + j * 2, none⟩ = some (.int .i64 y.kind) ∧ w'.cell? ⟨b2, o2 + j * 2 + 1, none⟩ = some (.int .i64 y.amt)) (go_keep) (fail)
          go_wp2
          go_roundw
          case rel => exact ⟨j + 1, by omega, by go_num, hE2, hb.drew⟩
          case measure => simp [intOf]; omega
        · have hd := neB_t hxy
          have hne : Hid (xs ≠ ys) := fun e => hxy (by have := hx.out; rw [e, hy.out] at this; exact (Option.some.inj this).symm)
          clear hxy hE
          go_wp2
          go_region_held3 (fun w' => w'.cell? ⟨b1, o1 + j * 2, none⟩ = some (.int .i64 x.kind) ∧ w'.cell? ⟨b1, o1 + j * 2 + 1, none⟩ = some (.int .i64 x.amt) ∧ w'.cell? ⟨b2, o2 + j * 2, none⟩ = some (.int .i64 y.kind) ∧ w'.cell? ⟨b2, o2 + j * 2 + 1, none⟩ = some (.int .i64 y.amt)) (go_keep) (fail)
          go_wp2
          go_ret
          exact ⟨by rw [eqB_f hne.out]; rfl, hb.drew⟩
      · have hfin : Hid (xs = ys) := by
          have h1 := he.out
          have hjl : j = xs.length := by omega
          rw [hjl, List.take_length] at h1
          rw [h1, hL.out, List.take_length]; rfl
        go_wp2
        go_ret
        exact ⟨by rw [eqB_t hfin.out]; rfl, hb⟩
  · have hl1 : ((xs.length : Int) == (ys.length : Int)) = false := by simp; omega
    have hl2 : ((xs.length : Int) != (ys.length : Int)) = true := by simp; omega
    have hne : Hid (xs ≠ ys) := fun e => hl (by rw [e])
    clear hl
    go_enter Try.func27, Try.ntmps27
    go_wp2
    go_ret
    exact ⟨by rw [eqB_f hne.out]; rfl, Below.refl _ _⟩
/-- A store of the document's at a pointer. -/
structure RSto (h : Hp) (b : Nat) (js : List SJ) : Prop where
  pt : Pt kSt 28 h b js
  good : GoodS js
  num : NumS js
theorem refAll_calls (p : Nat) (A : Option Addr) (ca : Nat) (js : List SJ) (ent : ByteArray) (upto : Int) (h : Hp) (w : World) (hs : h.sub w) (hc : w.cell? ⟨p, 0, none⟩ = some (.slice A js.length ca)) (sx : Sl kJ h A ca js) (hl : js.length ≤ 200) (hll : ∀ x ∈ js, x.lines.length ≤ 20) :
    Calls Try.prog 29 #[.pointer (some ⟨p, 0, none⟩), .string ent, .int .i64 upto] w fun e w' => ∃ C cap h', e = .returned (.slice C (allL js ent upto).length cap) ∧ Ow kItem h' C cap (allL js ent upto) ∧ Env w w' [h'] := by
  have m1 := sx.small
  have hlt := World.block_lt_of_cell? w _ hc
  have E0 := (Env.start w).new (Upd.of_below (Below.refl w.heap.size w))
  simp at E0
  go_enter Try.func29, Try.ntmps29
  go_wp2
  go_loopw [7, 15] (fun v i wr => ∃ (q cap n : Nat) (C : Option Addr) (h' : Hp) (os : List SItem), q ≤ js.length ∧ i = .int .i64 q ∧ v = .slice C n cap ∧ Hid (os.length = n) ∧ n ≤ 20 * q ∧ Hid (os = allL (js.take q) ent upto) ∧ Ow kItem h' C cap os ∧ Env w wr [h']) (fun _ i _ => js.length - (intOf i).toNat)
  case atStart => exact ⟨0, 0, 0, none, Hp.none, [], by omega, rfl, rfl, rfl, by omega, rfl, Ow.none _ _, E0⟩
  case round =>
    clear E0
    obtain ⟨q, cap, n, C, h', os, hq, rfl, rfl, hm, hn, ho, o, E⟩ := hrel
    by_cases hqt : q < js.length
    · obtain ⟨x, hx⟩ := some_of_lt hqt
      obtain ⟨b1, o1, B, cb, rfl, sl, c1, c2, c3, c4, c5, c6⟩ := sx.jou (hs.of_below E.low) hx
      have i1 : (0 : Int) ≤ (q : Int) := by omega
      have i2 : (q : Int) < (js.length : Int) := by omega
      have hxl := hll x (List.mem_of_getElem? hx.out)
      have HT : Hid (allL (js.take (q + 1)) ent upto = allL (js.take q) ent upto ++ allOne ent upto x) := by unfold Hid; rw [take_next hx, allL_snoc]
      by_cases hok : x.ent.toList = ent.toList ∧ x.period ≤ upto
      · have HS : Hid (allOne ent upto x = x.lines) := by unfold Hid allOne; rw [if_pos hok]
        obtain ⟨he, hp⟩ := hok
        have hp' : decide (x.period ≤ upto) = true := by simpa using hp
        have he' : decide (x.ent.toList = ent.toList) = true := by simpa using he
        have EA : ∀ o, Env w (wr.alloc o) [h'] := fun o => E.alloc' o
        go_wp2_with (at_builtin; refine wpList_eappF 0 Try.underlying34 info_line (EA _) (by rfl) o sl (hs.of_below (EA _).low) n x.lines.length hm.out rfl kItem_flat (by rfl) (by rfl) rfl cb (by rfl) (by rfl) (by omega) (by omega) ?_; intro C' cap' w2 h2 o2 E2)
        simp at E2
        go_roundw
        case rel => exact ⟨q + 1, cap', n + x.lines.length, C', h2, os ++ x.lines, by omega, by go_num, rfl, by unfold Hid; rw [List.length_append, hm.out], by omega, by unfold Hid; rw [HT.out, HS.out, ho.out], o2, E2⟩
        case measure => simp [intOf]; omega
      · have HS : Hid (allOne ent upto x = []) := by unfold Hid allOne; rw [if_neg hok]
        have E1 : ∀ ob, Env w (wr.alloc ob) [h'] := fun ob => E.alloc' ob
        by_cases he : x.ent.toList = ent.toList
        · have he' : decide (x.ent.toList = ent.toList) = true := by simpa using he
          have hp' : decide (x.period ≤ upto) = false := by simpa using fun h => hok ⟨he, h⟩
          clear hok
          go_wp2
          go_roundw
          case rel => exact ⟨q + 1, cap, n, C, h', os, by omega, by go_num, rfl, hm, by omega, by unfold Hid; rw [HT.out, HS.out, ho.out, List.append_nil], o, E1 _⟩
          case measure => simp [intOf]; omega
        · have he' : decide (x.ent.toList = ent.toList) = false := by simpa using he
          clear hok
          go_wp2
          go_roundw
          case rel => exact ⟨q + 1, cap, n, C, h', os, by omega, by go_num, rfl, hm, by omega, by unfold Hid; rw [HT.out, HS.out, ho.out, List.append_nil], o, E1 _⟩
          case measure => simp [intOf]; omega
    · obtain rfl : q = js.length := by omega
      rw [List.take_length] at ho
      have HN : Hid (n = (allL js ent upto).length) := by unfold Hid; rw [← ho.out, hm.out]
      have HO : Hid (Ow kItem h' C cap (allL js ent upto)) := ho.out ▸ o
      clear ho o hm
      go_wp2
      go_ret
      exact ⟨C, cap, h', by rw [HN.out]; rfl, HO.out, E⟩
section
variable {w0 w : World} {L : List Hp} {h : Hp} {b : Nat} {js : List SJ}
theorem RSto.rows (S : RSto h b js) (hs : h.sub w) : ∃ A ca, w.cell? ⟨b, 0, none⟩ = some (.slice A js.length ca) ∧ Sl kJ h A ca js := S.pt.store hs
theorem RSto.lens (S : RSto h b js) : ∀ x ∈ js, x.lines.length ≤ 20 := S.good.lines
theorem refTrial_calls (S : RSto h b js) (hs : h.sub w) (ent : ByteArray) (upto : Int) :
    Calls Try.prog 15 #[.pointer (some ⟨b, 0, none⟩), .string ent, .int .i64 upto] w fun e w' => ∃ C cap h', e = .returned (.slice C (trial js ent upto).length cap) ∧ Ow kItem h' C cap (trial js ent upto) ∧ Upd Hp.none h' w w' := by
  obtain ⟨A, ca, hc, sx⟩ := S.rows hs
  have HM := Lib.hid (merge_all S.num.check ent upto)
  have HT := Lib.hid (S.num.tame S.good.len ent upto)
  have AC := refAll_calls b A ca js ent upto h w hs hc sx S.good.len S.lens
  clear hc sx
  generalize allL js ent upto = l at *
  rw [← HM.out]
  go_enter Try.func15, Try.ntmps15
  go_wp2_with fail
  refine AC.mono ?_
  rintro e w1 ⟨C, cap, h1, rfl, o1, E1⟩
  clear AC
  go_wp2_with fail
  refine (refMerge_calls C cap l h1 _ (E1.sub 0 rfl) o1.sl HT.out).mono ?_
  rintro e w2 ⟨D, cd, h2, rfl, o2, u2⟩
  have E2 := (E1.new u2).made (h := h2) (by simp)
  go_wp2
  go_ret
  exact ⟨D, cd, h2, rfl, o2, E2⟩
theorem refBalance_calls (S : RSto h b js) (hs : h.sub w) (ent : ByteArray) (a upto : Int) :
    Calls Try.prog 17 #[.pointer (some ⟨b, 0, none⟩), .string ent, .int .i64 a, .int .i64 upto] w fun e w' => e = .returned (.int .i64 (balance js ent a upto)) ∧ Below w.heap.size w w' := by
  obtain ⟨l, v, HLV, HM, HH⟩ : ∃ (l : List SItem) (v : Int), (l = trial js ent upto ∧ v = balance js ent a upto) ∧ Hid ((∀ x ∈ l, x.kind ≠ a) → v = 0) ∧ Hid (∀ x ∈ l, x.kind = a → v = x.amt) :=
    ⟨_, _, ⟨rfl, rfl⟩, fun h => trial_miss S.num.check h, fun x hx hk => by rw [← hk]; exact trial_hit hx⟩
  have TC := refTrial_calls S hs ent upto
  rw [← HLV.1] at TC
  rw [← HLV.2]
  clear HLV
  go_enter Try.func17, Try.ntmps17
  go_wp2_with fail
  refine TC.mono ?_
  rintro e w1 ⟨C, cap, h1, rfl, o1, u1⟩
  have sl := o1.sl
  have m1 := o1.small
  have s1 := u1.sub
  have b1 := u1.below
  clear o1 u1 TC
  go_wp2
  go_loopw [16] (fun i wr => ∃ (j : Nat), j ≤ l.length ∧ i = .int .i64 j ∧ Hid (∀ x ∈ l.take j, x.kind ≠ a) ∧ Below w1.heap.size w1 wr) (fun i _ => l.length - (intOf i).toNat)
  case atStart => exact ⟨0, by omega, rfl, by unfold Hid; simp, Below.refl _ _⟩
  case round =>
    obtain ⟨j, hj, rfl, hn, hb⟩ := hrel
    by_cases hlt : j < l.length
    · obtain ⟨x, hxx⟩ := some_of_lt hlt
      obtain ⟨b2, o2, rfl, c1, c2⟩ := sl.item (s1.of_below hb) hxx
      have i1 : (0 : Int) ≤ (j : Int) := by omega
      have i2 : (j : Int) < (l.length : Int) := by omega
      by_cases hk : x.kind = a
      · have hkb : (x.kind == a) = true := by simpa using hk
        have HV : Hid (v = x.amt) := HH.out x (List.mem_of_getElem? hxx.out) hk
        clear hk
        go_wp2
        go_ret
        exact ⟨by rw [HV.out]; rfl, b1.trans ((hb.alloc hb.size _).mono b1.size)⟩
      · have hkb : (x.kind == a) = false := by simpa using hk
        have HN : Hid (∀ y ∈ l.take (j + 1), y.kind ≠ a) := by
          intro y hy
          rw [take_next hxx] at hy
          rcases List.mem_append.1 hy with hy | hy
          · exact hn.out y hy
          · simp at hy; subst hy; exact hk
        clear hk
        go_wp2
        go_roundw
        case rel => exact ⟨j + 1, by omega, by go_num, HN, hb.alloc hb.size _⟩
        case measure => simp [intOf]; omega
    · obtain rfl : j = l.length := by omega
      rw [List.take_length] at hn
      have HV : Hid (v = 0) := HM.out hn.out
      go_wp2
      go_ret
      exact ⟨by rw [HV.out]; rfl, b1.trans (hb.mono b1.size)⟩
end
end Go.Proofs.Ytbaklmlnfdlmmaa
end
section
/- A region that draws its order, by facts: of each operation one fact on its slot; each operation is shown once, whatever the order. No program is named here. -/
namespace Go.Sl
open Go Go.RowKit
def leftL : List Bool → Nat
  | [] => 0
  | b :: l => (if b = true then 0 else 1) + leftL l
theorem leftL_set : ∀ (l : List Bool) (i : Nat), l[i]? = some false → leftL (l.set i true) + 1 = leftL l
  | [], _, h => by simp at h
  | b :: l, 0, h => by
    simp at h; subst h; simp [leftL]; omega
  | b :: l, i + 1, h => by
    have := leftL_set l i (by simpa using h)
    simp only [List.set_cons_succ, leftL]; omega
theorem leftL_pos : ∀ (l : List Bool) (i : Nat), l[i]? = some false → 0 < leftL l
  | [], _, h => by simp at h
  | b :: l, 0, h => by simp at h; subst h; simp [leftL]; omega
  | b :: l, i + 1, h => by
    have := leftL_pos l i (by simpa using h)
    simp only [leftL]; omega
theorem leftL_rep : ∀ n : Nat, leftL (List.replicate n false) = n
  | 0 => rfl
  | n + 1 => by rw [List.replicate_succ]; simp only [leftL]; rw [leftL_rep n]; simp; omega
theorem getD_no {l : Array Bool} {i : Nat} (h : l.getD i true = false) : l.toList[i]? = some false := by
  rw [Array.getElem?_toList]
  rw [Array.getD_eq_getD_getElem?] at h
  cases hq : l[i]? with
  | none => rw [hq] at h; cases h
  | some b => rw [hq] at h; simp at h; rw [h]
section
variable {P : Program} {ops : Array Oper} {Q : Exit → Act → World → Prop} {md : Region.Mode}
theorem wpAny_inv (I : Array Bool → Act → World → Prop)
    (step : ∀ listed a w i, I listed a w → i ∈ Region.ready md ops listed → wpOp P ops Q i (fun a' w' => I (listed.setIfInBounds i true) a' w') a w)
    (fin : ∀ listed a w, I listed a w → Region.ready md ops listed = [] → Q .normal a w) :
    ∀ (fuel : Nat) (listed : Array Bool) (a : Act) (w : World), I listed a w → leftL listed.toList ≤ fuel → wpAny P md ops Q fuel listed a w
  | 0, listed, a, w, hI, hl => by
    have hr : Region.ready md ops listed = [] := List.eq_nil_iff_forall_not_mem.2 fun i hi => by
      have := leftL_pos _ i (getD_no (mem_ready.1 hi).1)
      omega
    exact ⟨hr, fin _ _ _ hI hr⟩
  | fuel + 1, listed, a, w, hI, hl => by
    refine ⟨fun h => fin _ _ _ hI h, fun i hi => wpOp_mono (fun a' w' h => wpAny_inv I step fin fuel _ a' w' h ?_) (step _ _ _ _ hI hi)⟩
    have := leftL_set _ i (getD_no (mem_ready.1 hi).1)
    rw [Array.toList_setIfInBounds]; omega
/-- Edges lead back. -/
def lowB (ops : Array Oper) : Bool := (List.range ops.size).all fun i => match ops[i]? with | some o => o.after.toList.all (fun e => decide (e.on < i)) | none => true
/-- Slots are each one operation's, and there. -/
def dstB (ops : Array Oper) (n : Nat) : Bool :=
  ((List.range ops.size).all fun i => (List.range ops.size).all fun j => decide (i = j) || (match ops[i]?, ops[j]? with | some x, some y => x.dst.isNone || decide (x.dst ≠ y.dst) | _, _ => true)) &&
  (List.range ops.size).all fun i => match ops[i]? with | some o => (match o.dst with | some d => decide (d < n) | none => true) | none => true
theorem lowB_spec (h : lowB ops = true) {i : Nat} {o : Oper} (ho : ops[i]? = some o) {e} (he : e ∈ o.after) : e.on < i := by
  unfold lowB at h
  have hi : i < ops.size := (Array.getElem?_eq_some_iff.1 ho).1
  have h1 := List.all_eq_true.1 h i (List.mem_range.2 hi)
  rw [ho] at h1
  have h2 := List.all_eq_true.1 h1 e (by simpa using he)
  simpa using h2
theorem dstB_apart {n : Nat} (h : dstB ops n = true) {i j : Nat} {o o' : Oper} (ho : ops[i]? = some o) (ho' : ops[j]? = some o') {d : Tmp} (hd : o.dst = some d) (hd' : o'.dst = some d) : i = j := by
  unfold dstB at h
  rw [Bool.and_eq_true] at h
  have hi : i < ops.size := (Array.getElem?_eq_some_iff.1 ho).1
  have hj : j < ops.size := (Array.getElem?_eq_some_iff.1 ho').1
  have h1 := List.all_eq_true.1 (List.all_eq_true.1 h.1 i (List.mem_range.2 hi)) j (List.mem_range.2 hj)
  rw [ho, ho'] at h1
  simp [hd, hd'] at h1
  exact h1
theorem dstB_in {n : Nat} (h : dstB ops n = true) {i : Nat} {o : Oper} (ho : ops[i]? = some o) {d : Tmp} (hd : o.dst = some d) : d < n := by
  unfold dstB at h
  rw [Bool.and_eq_true] at h
  have hi : i < ops.size := (Array.getElem?_eq_some_iff.1 ho).1
  have h1 := List.all_eq_true.1 h.2 i (List.mem_range.2 hi)
  rw [ho] at h1
  simp [hd] at h1
  exact h1
/-- What a region's frame keeps of the one it came with. -/
structure Keep (ops : Array Oper) (a0 a : Act) : Prop where
  size : a.tmps.size = a0.tmps.size
  defers : a.defers = a0.defers
  old : ∀ t : Tmp, (∀ (k : Nat) (o : Oper), ops[k]? = some o → o.dst ≠ some t) → a.eval (.tmp t) = a0.eval (.tmp t)
theorem put_eval_ne {a : Act} {dst : Option Tmp} {v : Value} {t : Tmp} (h : dst ≠ some t) : (a.put dst v).eval (.tmp t) = a.eval (.tmp t) := by
  cases dst with
  | none => rfl
  | some d =>
    have hne : d ≠ t := fun e => h (by rw [e])
    simp only [Act.put, Act.eval, Array.getD_eq_getD_getElem?]
    rw [Array.getElem?_setIfInBounds_ne hne]
theorem put_eval_eq {a : Act} {d : Tmp} {v : Value} (h : d < a.tmps.size) : (a.put (some d) v).eval (.tmp d) = v := by
  simp only [Act.put, Act.eval, Array.getD_eq_getD_getElem?]
  rw [Array.getElem?_setIfInBounds_self_of_lt h]; rfl
theorem put_size (a : Act) (dst : Option Tmp) (v : Value) : (a.put dst v).tmps.size = a.tmps.size := by
  cases dst <;> simp [Act.put]
theorem put_defers' (a : Act) (dst : Option Tmp) (v : Value) : (a.put dst v).defers = a.defers := by
  cases dst <;> rfl
/-- No operation writes this slot. -/
def keepB (ops : Array Oper) (t : Tmp) : Bool := ops.toList.all fun o => decide (o.dst ≠ some t)
theorem Keep.at {a0 a : Act} (kp : Keep ops a0 a) {t : Tmp} (h : keepB ops t = true) : a.tmps[t]?.getD undef = a0.tmps[t]?.getD undef := by
  have := kp.old t fun k o ho => by
    have h1 := List.all_eq_true.1 h o (by rw [← Array.getElem?_toList] at ho; exact List.mem_of_getElem? ho)
    simpa using h1
  simpa [Act.eval, Array.getD_eq_getD_getElem?] using this
theorem act_open {a : Act} {n : Nat} {ds : List Deferred} (hn : a.tmps.size = n) (hd : a.defers = ds) : a = ⟨((List.range n).map fun t => a.tmps[t]?.getD undef).toArray, ds⟩ := by
  cases a with
  | mk tm df =>
    simp only at hn hd
    subst hn hd
    congr 1
    apply Array.ext
    · simp
    · intro i h1 h2; simp [h1]
theorem eval_tmp (a : Act) (t : Tmp) : a.eval (.tmp t) = a.tmps[t]?.getD undef := by simp [Act.eval, Array.getD_eq_getD_getElem?]
/-- THE LAW. -/
theorem wp_region_facts {id : Nat} {a0 : Act} {w : World} (F : Nat → Value → World → Prop) (G : World → Prop)
    (hm : P.follows .mixedOrders = true) (hlow : lowB ops = true) (hdst : dstB ops a0.tmps.size = true) (hG : G w.drew)
    (hop : ∀ (i : Nat) (o : Oper), ops[i]? = some o → ∀ (a : Act) (w : World), G w → Keep ops a0 a →
      (∀ e ∈ o.after, Region.binds .any e = true → ∀ (o' : Oper) (d : Tmp), ops[e.on]? = some o' → o'.dst = some d → F e.on (a.eval (.tmp d)) w) →
      wpOp P ops Q i (fun a' w' => ∃ v, a' = a.put o.dst v ∧ (o.dst ≠ none → F i v w') ∧ G w' ∧ ∀ k v, F k v w → F k v w') a w)
    (hfin : ∀ (a : Act) (w : World), G w → Keep ops a0 a → (∀ (k : Nat) (o : Oper) (d : Tmp), ops[k]? = some o → o.dst = some d → F k (a.eval (.tmp d)) w) → Q .normal a w) :
    (Code.region id ops true).wp P Q a0 w := by
  refine wp_region_any hm ?_
  refine wpAny_inv (fun listed a w => listed.size = ops.size ∧ G w ∧ Keep ops a0 a ∧ ∀ (k : Nat) (o : Oper) (d : Tmp), ops[k]? = some o → o.dst = some d → listed.getD k false = true → F k (a.eval (.tmp d)) w) ?_ ?_ ops.size _ a0 _ ⟨by simp, hG, ⟨rfl, rfl, fun _ _ => rfl⟩, ?_⟩ (by rw [Array.toList_replicate, leftL_rep]; exact Nat.le_refl _)
  · intro listed a w i ⟨hs, g, kp, hf⟩ hi
    obtain ⟨hn, o, ho, hall⟩ := mem_ready.1 hi
    refine wpOp_mono ?_ (hop i o ho a w g kp fun e he hb o' d ho' hd' => hf _ _ _ ho' hd' (hall e he hb))
    rintro a' w' ⟨v, rfl, hv, g', hk⟩
    refine ⟨by simpa using hs, g', ⟨by rw [put_size]; exact kp.size, by rw [put_defers']; exact kp.defers, fun t ht => by rw [put_eval_ne (ht i o ho)]; exact kp.old t ht⟩, ?_⟩
    intro k o' d hk' hd' hl
    by_cases hik : i = k
    · subst hik
      rw [ho] at hk'
      cases hk'
      rw [hd', put_eval_eq (by rw [kp.size]; exact dstB_in hdst ho hd')]
      exact hv (by rw [hd']; simp)
    · have hne : o.dst ≠ some d := fun h => hik (dstB_apart hdst ho hk' h hd')
      rw [put_eval_ne hne]
      refine hk _ _ (hf k o' d hk' hd' ?_)
      rw [Array.getD_eq_getD_getElem?, Array.getElem?_setIfInBounds_ne hik, ← Array.getD_eq_getD_getElem?] at hl
      exact hl
  · intro listed a w ⟨hs, g, kp, hf⟩ hr
    have hall : ∀ i, i < ops.size → listed.getD i false = true := by
      intro i
      induction i using Nat.strongRecOn with
      | _ i ih =>
        intro hi
        cases hq : listed.getD i true with
        | true =>
          have hlt : i < listed.size := by omega
          rw [Array.getD_eq_getD_getElem?, Array.getElem?_eq_getElem hlt] at hq ⊢
          simpa using hq
        | false =>
          have hmem : i ∈ Region.ready .any ops listed := mem_ready.2 ⟨hq, ops[i], by simp [hi], fun e he _ => by
            have h1 := lowB_spec hlow (i := i) (o := ops[i]) (by simp [hi]) he
            exact ih _ h1 (by omega)⟩
          rw [hr] at hmem
          cases hmem
    exact hfin a w g kp fun k o d hk hd => hf k o d hk hd (hall k (Array.getElem?_eq_some_iff.1 hk).1)
  · intro k o d _ _ hl
    exfalso
    rw [Array.getD_eq_getD_getElem?, Array.getElem?_replicate] at hl
    split at hl <;> simp at hl
/-- The last operation waits for all others. -/
def lastB (ops : Array Oper) : Bool := match ops[ops.size - 1]? with
  | some o => (List.range (ops.size - 1)).all fun k => o.after.toList.any (fun e => Region.binds .any e && decide (e.on = k))
  | none => false
theorem lastB_spec (h : lastB ops = true) {o : Oper} (ho : ops[ops.size - 1]? = some o) {k : Nat} (hk : k < ops.size - 1) : ∃ e ∈ o.after, Region.binds .any e = true ∧ e.on = k := by
  unfold lastB at h
  rw [ho] at h
  obtain ⟨e, he, h2⟩ := List.any_eq_true.1 (List.all_eq_true.1 h k (List.mem_range.2 hk))
  rw [Bool.and_eq_true] at h2
  exact ⟨e, by simpa using he, h2.1, by simpa using h2.2⟩
/-- THE LAW, where the last operation (a store, most times) waits for all others: it is shown by itself. -/
theorem wp_region_facts_last {id : Nat} {a0 : Act} {w : World} (F : Nat → Value → World → Prop) (G : World → Prop)
    (hm : P.follows .mixedOrders = true) (hlow : lowB ops = true) (hdst : dstB ops a0.tmps.size = true) (hlast : lastB ops = true) (hG : G w.drew)
    (hop : ∀ (i : Nat) (o : Oper), i < ops.size - 1 → ops[i]? = some o → ∀ (a : Act) (w : World), G w → Keep ops a0 a →
      (∀ e ∈ o.after, Region.binds .any e = true → ∀ (o' : Oper) (d : Tmp), ops[e.on]? = some o' → o'.dst = some d → F e.on (a.eval (.tmp d)) w) →
      wpOp P ops Q i (fun a' w' => ∃ v, a' = a.put o.dst v ∧ (o.dst ≠ none → F i v w') ∧ G w' ∧ ∀ k v, F k v w → F k v w') a w)
    (hfin : ∀ (a : Act) (w : World), G w → Keep ops a0 a → (∀ (k : Nat) (o : Oper) (d : Tmp), k < ops.size - 1 → ops[k]? = some o → o.dst = some d → F k (a.eval (.tmp d)) w) → wpOp P ops Q (ops.size - 1) (fun a' w' => Q .normal a' w') a w) :
    (Code.region id ops true).wp P Q a0 w := by
  refine wp_region_any hm ?_
  have hpos : 0 < ops.size := by
    unfold lastB at hlast
    cases hq : ops[ops.size - 1]? with
    | none => rw [hq] at hlast; cases hlast
    | some o => have := (Array.getElem?_eq_some_iff.1 hq).1; omega
  refine wpAny_inv (fun listed a w => (listed.size = ops.size ∧ listed.getD (ops.size - 1) true = false ∧ G w ∧ Keep ops a0 a ∧ ∀ (k : Nat) (o : Oper) (d : Tmp), ops[k]? = some o → o.dst = some d → listed.getD k false = true → F k (a.eval (.tmp d)) w) ∨ ((∀ k, k < ops.size → listed.getD k true = true) ∧ Q .normal a w)) ?_ ?_ ops.size _ a0 _ (.inl ⟨by simp, ?_, hG, ⟨rfl, rfl, fun _ _ => rfl⟩, ?_⟩) (by rw [Array.toList_replicate, leftL_rep]; exact Nat.le_refl _)
  · intro listed a w i hI hi
    obtain ⟨hn, o, ho, hall⟩ := mem_ready.1 hi
    have hin : i < ops.size := (Array.getElem?_eq_some_iff.1 ho).1
    rcases hI with ⟨hs, hl0, g, kp, hf⟩ | ⟨hx, _⟩
    · by_cases hil : i = ops.size - 1
      · subst hil
        refine wpOp_mono ?_ (hfin a w g kp fun k o' d hk ho' hd' => ?_)
        · intro a' w' hq
          refine .inr ⟨fun k hk => ?_, hq⟩
          by_cases hkl : ops.size - 1 = k
          · subst hkl
            rw [Array.getD_eq_getD_getElem?, Array.getElem?_setIfInBounds_self_of_lt (by omega)]; rfl
          · obtain ⟨e, he, hb, rfl⟩ := lastB_spec hlast ho (k := k) (by omega)
            have h1 := hall e he hb
            rw [Array.getD_eq_getD_getElem?, Array.getElem?_setIfInBounds_ne hkl]
            rw [Array.getD_eq_getD_getElem?] at h1
            cases hq : listed[e.on]? with
            | none => rfl
            | some b => rw [hq] at h1; exact h1
        · obtain ⟨e, he, hb, rfl⟩ := lastB_spec hlast ho (k := k) hk
          exact hf _ _ _ ho' hd' (hall e he hb)
      · refine wpOp_mono ?_ (hop i o (by omega) ho a w g kp fun e he hb o' d ho' hd' => hf _ _ _ ho' hd' (hall e he hb))
        rintro a' w' ⟨v, rfl, hv, g', hk⟩
        refine .inl ⟨by simpa using hs, by rw [Array.getD_eq_getD_getElem?, Array.getElem?_setIfInBounds_ne hil, ← Array.getD_eq_getD_getElem?]; exact hl0, g', ⟨by rw [put_size]; exact kp.size, by rw [put_defers']; exact kp.defers, fun t ht => by rw [put_eval_ne (ht i o ho)]; exact kp.old t ht⟩, ?_⟩
        intro k o' d hk' hd' hl
        by_cases hik : i = k
        · subst hik
          rw [ho] at hk'
          cases hk'
          rw [hd', put_eval_eq (by rw [kp.size]; exact dstB_in hdst ho hd')]
          exact hv (by rw [hd']; simp)
        · have hne : o.dst ≠ some d := fun h => hik (dstB_apart hdst ho hk' h hd')
          rw [put_eval_ne hne]
          refine hk _ _ (hf k o' d hk' hd' ?_)
          rw [Array.getD_eq_getD_getElem?, Array.getElem?_setIfInBounds_ne hik, ← Array.getD_eq_getD_getElem?] at hl
          exact hl
    · have := hx i hin
      rw [this] at hn; cases hn
  · intro listed a w hI hr
    rcases hI with ⟨hs, hl0, g, kp, hf⟩ | ⟨_, hq⟩
    · exfalso
      have hall : ∀ i, i < ops.size → listed.getD i true = true := by
        intro i
        induction i using Nat.strongRecOn with
        | _ i ih =>
          intro hi
          cases hq : listed.getD i true with
          | true => rfl
          | false =>
            have hmem : i ∈ Region.ready .any ops listed := mem_ready.2 ⟨hq, ops[i], by simp [hi], fun e he _ => by
              have h1 := lowB_spec hlow (i := i) (o := ops[i]) (by simp [hi]) he
              have h2 := ih _ h1 (by omega)
              have hlt : e.on < listed.size := by omega
              rw [Array.getD_eq_getD_getElem?, Array.getElem?_eq_getElem hlt] at h2 ⊢
              simpa using h2⟩
            rw [hr] at hmem
            cases hmem
      rw [hall _ (by omega)] at hl0
      cases hl0
    · exact hq
  · rw [Array.getD_eq_getD_getElem?, Array.getElem?_replicate, if_pos (by omega)]; rfl
  · intro k o d _ _ hl
    exfalso
    rw [Array.getD_eq_getD_getElem?, Array.getElem?_replicate] at hl
    split at hl <;> simp at hl
end
end Go.Sl
end
section
/- A region by facts, where some edges lead forth. No program is named here. -/
namespace Go.Sl
open Go Go.RowKit
section
variable {P : Program} {ops : Array Oper} {Q : Exit → Act → World → Prop} {md : Region.Mode}
def lowO (ops : Array Oper) (ord : List Nat) : Bool := (List.range ops.size).all fun i => match ops[i]? with | some o => o.after.toList.all (fun e => !Region.binds .any e || (decide (e.on < ops.size) && decide (ord.getD e.on 0 < ord.getD i 0))) | none => true
theorem lowO_spec {ord : List Nat} (h : lowO ops ord = true) {i : Nat} {o : Oper} (ho : ops[i]? = some o) {e} (he : e ∈ o.after) (hb : Region.binds .any e = true) : e.on < ops.size ∧ ord.getD e.on 0 < ord.getD i 0 := by
  unfold lowO at h
  have hi : i < ops.size := (Array.getElem?_eq_some_iff.1 ho).1
  have h1 := List.all_eq_true.1 h i (List.mem_range.2 hi)
  rw [ho] at h1
  have h2 := List.all_eq_true.1 h1 e (by simpa using he)
  simpa [hb] using h2
/-- THE LAW, where some edges lead forth: each operation has a rank. -/
theorem wp_region_facts_ord {id : Nat} {a0 : Act} {w : World} (F : Nat → Value → World → Prop) (G : World → Prop)
    (ord : List Nat) (hm : P.follows .mixedOrders = true) (hlow : lowO ops ord = true) (hdst : dstB ops a0.tmps.size = true) (hG : G w.drew)
    (hop : ∀ (i : Nat) (o : Oper), ops[i]? = some o → ∀ (a : Act) (w : World), G w → Keep ops a0 a →
      (∀ e ∈ o.after, Region.binds .any e = true → ∀ (o' : Oper) (d : Tmp), ops[e.on]? = some o' → o'.dst = some d → F e.on (a.eval (.tmp d)) w) →
      wpOp P ops Q i (fun a' w' => ∃ v, a' = a.put o.dst v ∧ (o.dst ≠ none → F i v w') ∧ G w' ∧ ∀ k v, F k v w → F k v w') a w)
    (hfin : ∀ (a : Act) (w : World), G w → Keep ops a0 a → (∀ (k : Nat) (o : Oper) (d : Tmp), ops[k]? = some o → o.dst = some d → F k (a.eval (.tmp d)) w) → Q .normal a w) :
    (Code.region id ops true).wp P Q a0 w := by
  refine wp_region_any hm ?_
  refine wpAny_inv (fun listed a w => listed.size = ops.size ∧ G w ∧ Keep ops a0 a ∧ ∀ (k : Nat) (o : Oper) (d : Tmp), ops[k]? = some o → o.dst = some d → listed.getD k false = true → F k (a.eval (.tmp d)) w) ?_ ?_ ops.size _ a0 _ ⟨by simp, hG, ⟨rfl, rfl, fun _ _ => rfl⟩, ?_⟩ (by rw [Array.toList_replicate, leftL_rep]; exact Nat.le_refl _)
  · intro listed a w i ⟨hs, g, kp, hf⟩ hi
    obtain ⟨hn, o, ho, hall⟩ := mem_ready.1 hi
    refine wpOp_mono ?_ (hop i o ho a w g kp fun e he hb o' d ho' hd' => hf _ _ _ ho' hd' (hall e he hb))
    rintro a' w' ⟨v, rfl, hv, g', hk⟩
    refine ⟨by simpa using hs, g', ⟨by rw [put_size]; exact kp.size, by rw [put_defers']; exact kp.defers, fun t ht => by rw [put_eval_ne (ht i o ho)]; exact kp.old t ht⟩, ?_⟩
    intro k o' d hk' hd' hl
    by_cases hik : i = k
    · subst hik
      rw [ho] at hk'
      cases hk'
      rw [hd', put_eval_eq (by rw [kp.size]; exact dstB_in hdst ho hd')]
      exact hv (by rw [hd']; simp)
    · have hne : o.dst ≠ some d := fun h => hik (dstB_apart hdst ho hk' h hd')
      rw [put_eval_ne hne]
      refine hk _ _ (hf k o' d hk' hd' ?_)
      rw [Array.getD_eq_getD_getElem?, Array.getElem?_setIfInBounds_ne hik, ← Array.getD_eq_getD_getElem?] at hl
      exact hl
  · intro listed a w ⟨hs, g, kp, hf⟩ hr
    have hall : ∀ (n i : Nat), ord.getD i 0 = n → i < ops.size → listed.getD i false = true := by
      intro n
      induction n using Nat.strongRecOn with
      | _ n ih =>
        intro i hn hi
        cases hq : listed.getD i true with
        | true =>
          have hlt : i < listed.size := by omega
          rw [Array.getD_eq_getD_getElem?, Array.getElem?_eq_getElem hlt] at hq ⊢
          simpa using hq
        | false =>
          have hmem : i ∈ Region.ready .any ops listed := mem_ready.2 ⟨hq, ops[i], by simp [hi], fun e he hb => by
            obtain ⟨h1, h2⟩ := lowO_spec hlow (i := i) (o := ops[i]) (by simp [hi]) he hb
            exact ih _ (hn ▸ h2) _ rfl h1⟩
          rw [hr] at hmem
          cases hmem
    exact hfin a w g kp fun k o d hk hd => hf k o d hk hd (hall _ k rfl (Array.getElem?_eq_some_iff.1 hk).1)
  · intro k o d _ _ hl
    exfalso
    rw [Array.getD_eq_getD_getElem?, Array.getElem?_replicate] at hl
    split at hl <;> simp at hl
end
end Go.Sl
namespace Go.Sl
open Go Go.RowKit
/-- The slots of L laid anew. -/
def layAll (f : Tmp → Value) (b : Act) (L : List Tmp) : Act := L.foldl (fun b d => b.put (some d) (f d)) b
theorem layAll_size (f : Tmp → Value) : ∀ (L : List Tmp) (b : Act), (layAll f b L).tmps.size = b.tmps.size
  | [], _ => rfl
  | d :: L, b => (layAll_size f L _).trans (put_size b (some d) _)
theorem layAll_defers (f : Tmp → Value) : ∀ (L : List Tmp) (b : Act), (layAll f b L).defers = b.defers
  | [], _ => rfl
  | d :: L, b => (layAll_defers f L _).trans (put_defers' b (some d) _)
theorem layAll_at (f : Tmp → Value) (t : Tmp) : ∀ (L : List Tmp) (b : Act), (layAll f b L).tmps[t]? = if t ∈ L ∧ t < b.tmps.size then some (f t) else b.tmps[t]?
  | [], b => by simp [layAll]
  | d :: L, b => by
    have h := layAll_at f t L (b.put (some d) (f d))
    show (layAll f (b.put (some d) (f d)) L).tmps[t]? = _
    rw [h, put_size]
    by_cases hL : t ∈ L
    · by_cases hb : t < b.tmps.size
      · rw [if_pos ⟨hL, hb⟩, if_pos ⟨by simp [hL], hb⟩]
      · rw [if_neg (fun h => hb h.2), if_neg (fun h => hb h.2)]
        simp only [Act.put]
        have hge : b.tmps.size ≤ t := Nat.le_of_not_lt hb
        rw [Array.getElem?_eq_none hge, Array.getElem?_eq_none (show (b.tmps.setIfInBounds d (f d)).size ≤ t by simpa using hge)]
    · rw [if_neg (fun h => hL h.1)]
      by_cases hd : d = t
      · subst hd
        by_cases hb : d < b.tmps.size
        · rw [if_pos ⟨by simp, hb⟩]
          simp only [Act.put]
          rw [Array.getElem?_setIfInBounds_self_of_lt hb]
        · rw [if_neg (fun h => hb h.2)]
          simp only [Act.put]
          have hge : b.tmps.size ≤ d := Nat.le_of_not_lt hb
          rw [Array.getElem?_eq_none hge, Array.getElem?_eq_none (show (b.tmps.setIfInBounds d (f d)).size ≤ d by simpa using hge)]
      · rw [if_neg (fun h => by rcases List.mem_cons.1 h.1 with h | h; exact hd h.symm; exact hL h)]
        simp only [Act.put]
        rw [Array.getElem?_setIfInBounds_ne hd]
def dstIn (ops : Array Oper) (L : List Tmp) : Bool := ops.toList.all fun o => match o.dst with | some d => L.contains d | none => true
/-- The frame behind a region: the one it came with, and its own slots laid anew. -/
theorem Keep.act {ops : Array Oper} {a0 a : Act} (kp : Keep ops a0 a) (L : List Tmp) (h : dstIn ops L = true) : a = layAll (fun d => a.eval (.tmp d)) a0 L := by
  have hz : a.tmps.size = (layAll (fun d => a.eval (.tmp d)) a0 L).tmps.size := by rw [layAll_size]; exact kp.size
  have ht : a.tmps = (layAll (fun d => a.eval (.tmp d)) a0 L).tmps := by
    apply Array.ext_getElem?
    intro t
    rw [layAll_at]
    by_cases hs : t < a0.tmps.size
    · have hs' : t < a.tmps.size := by rw [kp.size]; exact hs
      by_cases hL : t ∈ L
      · rw [if_pos ⟨hL, hs⟩, eval_tmp, Array.getElem?_eq_getElem hs']; rfl
      · rw [if_neg (fun h => hL h.1)]
        have h1 := kp.old t fun k o ho hd => by
          have h2 := List.all_eq_true.1 h o (by rw [← Array.getElem?_toList] at ho; exact List.mem_of_getElem? ho)
          rw [hd] at h2
          exact hL (by simpa using h2)
        rw [eval_tmp, eval_tmp, Array.getElem?_eq_getElem hs, Array.getElem?_eq_getElem hs'] at h1
        rw [Array.getElem?_eq_getElem hs, Array.getElem?_eq_getElem hs']
        simpa using h1
    · have h1 : a0.tmps.size ≤ t := by omega
      have h2 : a.tmps.size ≤ t := by rw [kp.size]; exact h1
      rw [if_neg (fun h => hs h.2), Array.getElem?_eq_none h1, Array.getElem?_eq_none h2]
  have hd : a.defers = (layAll (fun d => a.eval (.tmp d)) a0 L).defers := by rw [layAll_defers]; exact kp.defers
  cases a
  generalize layAll _ _ _ = b at *
  cases b
  simp only at ht hd
  subst ht hd
  rfl
end Go.Sl
end
section
/- A region by facts that see which operations are listed. No program is named here. -/
namespace Go.Sl
open Go Go.RowKit
section
variable {P : Program} {ops : Array Oper} {Q : Exit → Act → World → Prop}
/-- What an operation waits for is listed when it is. -/
def Closed (ops : Array Oper) (ls : Array Bool) : Prop := ∀ (k : Nat) (o : Oper), ops[k]? = some o → ls.getD k false = true → ∀ e ∈ o.after, Region.binds .any e = true → ls.getD e.on false = true
theorem Closed.up {ls : Array Bool} (c : Closed ops ls) {k : Nat} {o : Oper} (ho : ops[k]? = some o) (h : ls.getD k false = true) (e : Edge) (he : e ∈ o.after) (hb : Region.binds .any e = true) : ls.getD e.on false = true := c k o ho h e he hb
theorem getD_set_self {ls : Array Bool} {i : Nat} (h : ls.getD i true = false) : (ls.setIfInBounds i true).getD i false = true := by
  have hi : i < ls.size := by
    by_cases hi : i < ls.size
    · exact hi
    · rw [Array.getD_eq_getD_getElem?, Array.getElem?_eq_none (by omega)] at h; cases h
  rw [Array.getD_eq_getD_getElem?, Array.getElem?_setIfInBounds_self_of_lt hi]; rfl
theorem getD_set_ne {ls : Array Bool} {i k : Nat} (h : i ≠ k) : (ls.setIfInBounds i true).getD k false = ls.getD k false := by
  rw [Array.getD_eq_getD_getElem?, Array.getElem?_setIfInBounds_ne h, ← Array.getD_eq_getD_getElem?]
theorem getD_not {ls : Array Bool} {i : Nat} (h : ls.getD i true = false) : ls.getD i false = false := by
  rw [Array.getD_eq_getD_getElem?] at h ⊢
  cases hq : ls[i]? with
  | none => rfl
  | some x => rw [hq] at h; simpa using h
/-- THE LAW: facts of the listed operations, a state that sees the list. -/
theorem wp_region_facts_seen {id : Nat} {a0 : Act} {w : World} (F : Array Bool → Nat → Value → World → Prop) (G : Array Bool → World → Prop)
    (ord : List Nat) (hm : P.follows .mixedOrders = true) (hlow : lowO ops ord = true) (hdst : dstB ops a0.tmps.size = true) (hG : G (Array.replicate ops.size false) w.drew)
    (hop : ∀ (i : Nat) (o : Oper), ops[i]? = some o → ∀ (ls : Array Bool) (a : Act) (w : World), ls.getD i false = false → ls.getD i true = false → Closed ops ls → (∀ e ∈ o.after, Region.binds .any e = true → ls.getD e.on false = true) → G ls w → Keep ops a0 a →
      (∀ e ∈ o.after, Region.binds .any e = true → ∀ (o' : Oper) (d : Tmp), ops[e.on]? = some o' → o'.dst = some d → F ls e.on (a.eval (.tmp d)) w) →
      wpOp P ops Q i (fun a' w' => ∃ v, a' = a.put o.dst v ∧ (o.dst ≠ none → F (ls.setIfInBounds i true) i v w') ∧ G (ls.setIfInBounds i true) w' ∧ ∀ k v, k ≠ i → F ls k v w → F (ls.setIfInBounds i true) k v w') a w)
    (hfin : ∀ (ls : Array Bool) (a : Act) (w : World), (∀ k, k < ops.size → ls.getD k false = true) → G ls w → Keep ops a0 a → (∀ (k : Nat) (o : Oper) (d : Tmp), ops[k]? = some o → o.dst = some d → F ls k (a.eval (.tmp d)) w) → Q .normal a w) :
    (Code.region id ops true).wp P Q a0 w := by
  refine wp_region_any hm ?_
  refine wpAny_inv (fun listed a w => listed.size = ops.size ∧ Closed ops listed ∧ G listed w ∧ Keep ops a0 a ∧ ∀ (k : Nat) (o : Oper) (d : Tmp), ops[k]? = some o → o.dst = some d → listed.getD k false = true → F listed k (a.eval (.tmp d)) w) ?_ ?_ ops.size _ a0 _ ⟨by simp, ?_, hG, ⟨rfl, rfl, fun _ _ => rfl⟩, ?_⟩ (by rw [Array.toList_replicate, leftL_rep]; exact Nat.le_refl _)
  · intro listed a w i ⟨hs, hc, g, kp, hf⟩ hi
    obtain ⟨hn, o, ho, hall⟩ := mem_ready.1 hi
    refine wpOp_mono ?_ (hop i o ho listed a w (getD_not hn) hn hc hall g kp fun e he hb o' d ho' hd' => hf _ _ _ ho' hd' (hall e he hb))
    rintro a' w' ⟨v, rfl, hv, g', hk⟩
    refine ⟨by simpa using hs, ?_, g', ⟨by rw [put_size]; exact kp.size, by rw [put_defers']; exact kp.defers, fun t ht => by rw [put_eval_ne (ht i o ho)]; exact kp.old t ht⟩, ?_⟩
    · intro k o' hk' hl e he hb
      by_cases hei : i = e.on
      · rw [← hei]; exact getD_set_self hn
      · rw [getD_set_ne hei]
        by_cases hik : i = k
        · subst hik
          rw [ho] at hk'
          cases hk'
          exact hall e he hb
        · rw [getD_set_ne hik] at hl
          exact hc k o' hk' hl e he hb
    · intro k o' d hk' hd' hl
      by_cases hik : i = k
      · subst hik
        rw [ho] at hk'
        cases hk'
        rw [hd', put_eval_eq (by rw [kp.size]; exact dstB_in hdst ho hd')]
        exact hv (by rw [hd']; simp)
      · have hne : o.dst ≠ some d := fun h => hik (dstB_apart hdst ho hk' h hd')
        rw [put_eval_ne hne]
        rw [getD_set_ne hik] at hl
        exact hk _ _ (fun e => hik e.symm) (hf k o' d hk' hd' hl)
  · intro listed a w ⟨hs, hc, g, kp, hf⟩ hr
    have hall : ∀ (n i : Nat), ord.getD i 0 = n → i < ops.size → listed.getD i false = true := by
      intro n
      induction n using Nat.strongRecOn with
      | _ n ih =>
        intro i hn hi
        cases hq : listed.getD i true with
        | true =>
          have hlt : i < listed.size := by omega
          rw [Array.getD_eq_getD_getElem?, Array.getElem?_eq_getElem hlt] at hq ⊢
          simpa using hq
        | false =>
          have hmem : i ∈ Region.ready .any ops listed := mem_ready.2 ⟨hq, ops[i], by simp [hi], fun e he hb => by
            obtain ⟨h1, h2⟩ := lowO_spec hlow (i := i) (o := ops[i]) (by simp [hi]) he hb
            exact ih _ (hn ▸ h2) _ rfl h1⟩
          rw [hr] at hmem
          cases hmem
    exact hfin listed a w (fun k hk => hall _ k rfl hk) g kp fun k o d hk hd => hf k o d hk hd (hall _ k rfl (Array.getElem?_eq_some_iff.1 hk).1)
  · intro k o _ hl
    exfalso
    rw [Array.getD_eq_getD_getElem?, Array.getElem?_replicate] at hl
    split at hl <;> simp at hl
  · intro k o d _ _ hl
    exfalso
    rw [Array.getD_eq_getD_getElem?, Array.getElem?_replicate] at hl
    split at hl <;> simp at hl
end
end Go.Sl
end
section
/- The facts of the drawn region of the document's Post. -/
namespace Go.Sl
open Go Go.RowKit
def rpF (w W : World) (h : Hp) (b : Nat) (A : Option Addr) (ca : Nat) (js : List SJ) (ent : ByteArray) (per kn fo : Int) (xs : List SItem) (D : Option Addr) (cd : Nat) (ls : Array Bool) (k : Nat) (v : Value) (V : World) : Prop := match k with
  | 0 => v = .pointer (some ⟨b, 0, none⟩)
  | 1 => v = .pointer (some ⟨b, 0, none⟩)
  | 2 => v = .pointer (some ⟨b, 0, none⟩)
  | 3 => v = .pointer (some ⟨b, 0, none⟩)
  | 4 => v = .slice A js.length ca
  | 5 => v = .pointer (some ⟨b, 0, none⟩)
  | 6 => v = .pointer (some ⟨b, 0, none⟩)
  | 7 => v = .pointer (some ⟨b, 0, none⟩)
  | 8 => v = .slice A js.length ca
  | 9 => v = .int .i64 (js.length : Int)
  | 10 => v = .int .i64 ((js.length : Int) + 1)
  | 11 => v = .string ent
  | 12 => v = .int .i64 per
  | 13 => v = .int .i64 kn
  | 14 => v = .int .i64 fo
  | 15 => v = .slice D xs.length cd
  | 20 => v = .pointer (some ⟨b, 0, none⟩)
  | 21 => v = .pointer (some ⟨b, 0, none⟩)
  | 16 => ls.getD 19 false = true ∨ ∃ C n h2, v = .slice C xs.length n ∧ Ow kItem h2 C n xs ∧ Upd Hp.none h2 W V
  | 17 => ls.getD 19 false = true ∨ ∃ C n h2, v = .agg #[.int .i64 ((js.length : Int) + 1), .string ent, .int .i64 per, .int .i64 kn, .int .i64 fo, .slice C xs.length n] ∧ Ow kItem h2 C n xs ∧ Upd Hp.none h2 W V
  | 18 => ls.getD 19 false = true ∨ ∃ C n h2 q T, v = .slice (some ⟨q, 0, none⟩) 1 1 ∧ V.heap[q]? = some (.cells #[.int .i64 ((js.length : Int) + 1), .string ent, .int .i64 per, .int .i64 kn, .int .i64 fo, .slice C xs.length n] T (0, 0)) ∧ Ow kItem h2 C n xs ∧ Upd Hp.none h2 W V
  | 19 => ls.getD 22 false = true ∨ ∃ C n h3, v = .slice C (js.length + 1) n ∧ Ow kJ h3 C n (js ++ [⟨(js.length : Int) + 1, ent, per, kn, fo, xs⟩]) ∧ Upd (h.del b) h3 W V ∧ V.cell? ⟨b, 0, none⟩ = some (.slice A js.length ca) ∧ V.frozen? ⟨b, 0, none⟩ = false
  | _ => True
def rpG (w W : World) (h : Hp) (b : Nat) (js : List SJ) (y : SJ) (TS : TypeId) (ls : Array Bool) (V : World) : Prop :=
  (ls.getD 19 false = false → Below W.heap.size W V) ∧ (ls.getD 22 false = true → ∃ C n h3, Ow kJ h3 C n (js ++ [y]) ∧ Upd h (h3.put b (.cells #[.slice C (js.length + 1) n] TS (0, 0))) w V ∧ h3 b = .none)
theorem getD_up {ls : Array Bool} {i j : Nat} (h : ls.getD j false = true) : (ls.setIfInBounds i true).getD j false = true := by
  by_cases e : i = j
  · subst e
    rw [Array.getD_eq_getD_getElem?] at h ⊢
    cases hq : ls[i]? with
    | none => rw [hq] at h; cases h
    | some x =>
      have hi := (Array.getElem?_eq_some_iff.1 hq).1
      rw [Array.getElem?_setIfInBounds_self_of_lt hi]; rfl
  · rw [getD_set_ne e]; exact h
theorem rpF_below {w W : World} {h : Hp} {b : Nat} {A : Option Addr} {ca : Nat} {js : List SJ} {ent : ByteArray} {per kn fo : Int} {xs : List SItem} {D : Option Addr} {cd : Nat} {ls : Array Bool} {i k : Nat} {v : Value} {V V' : World} (B : Below V.heap.size V V') (h0 : rpF w W h b A ca js ent per kn fo xs D cd ls k v V) : rpF w W h b A ca js ent per kn fo xs D cd (ls.setIfInBounds i true) k v V' := by
  match k, h0 with
  | 0, h0 => exact h0
  | 1, h0 => exact h0
  | 2, h0 => exact h0
  | 3, h0 => exact h0
  | 4, h0 => exact h0
  | 5, h0 => exact h0
  | 6, h0 => exact h0
  | 7, h0 => exact h0
  | 8, h0 => exact h0
  | 9, h0 => exact h0
  | 10, h0 => exact h0
  | 11, h0 => exact h0
  | 12, h0 => exact h0
  | 13, h0 => exact h0
  | 14, h0 => exact h0
  | 15, h0 => exact h0
  | 20, h0 => exact h0
  | 21, h0 => exact h0
  | 16, h0 =>
    rcases h0 with h0 | ⟨C, n, h2, e, o, u⟩
    · exact .inl (getD_up h0)
    · exact .inr ⟨C, n, h2, e, o, u.after B⟩
  | 17, h0 =>
    rcases h0 with h0 | ⟨C, n, h2, e, o, u⟩
    · exact .inl (getD_up h0)
    · exact .inr ⟨C, n, h2, e, o, u.after B⟩
  | 18, h0 =>
    rcases h0 with h0 | ⟨C, n, h2, q, T, e, hq, o, u⟩
    · exact .inl (getD_up h0)
    · exact .inr ⟨C, n, h2, q, T, e, (B.block q (Array.getElem?_eq_some_iff.1 hq).1).trans hq, o, u.after B⟩
  | 19, h0 =>
    rcases h0 with h0 | ⟨C, n, h3, e, o, u, c, f⟩
    · exact .inl (getD_up h0)
    · have hl := World.block_lt_of_cell? _ _ c
      exact .inr ⟨C, n, h3, e, o, u.after B, (B.cell hl).trans c, (B.frozen hl).trans f⟩
  | 22, h0 => exact h0
  | k + 23, h0 => trivial
theorem rpF_eat {w W : World} {h : Hp} {b : Nat} {A : Option Addr} {ca : Nat} {js : List SJ} {ent : ByteArray} {per kn fo : Int} {xs : List SItem} {D : Option Addr} {cd : Nat} {ls : Array Bool} {k : Nat} {v : Value} {V V' : World} (hk : k ≠ 19) (hn : (ls.setIfInBounds 19 true).getD 19 false = true) (h0 : rpF w W h b A ca js ent per kn fo xs D cd ls k v V) : rpF w W h b A ca js ent per kn fo xs D cd (ls.setIfInBounds 19 true) k v V' := by
  match k, h0 with
  | 0, h0 => exact h0
  | 1, h0 => exact h0
  | 2, h0 => exact h0
  | 3, h0 => exact h0
  | 4, h0 => exact h0
  | 5, h0 => exact h0
  | 6, h0 => exact h0
  | 7, h0 => exact h0
  | 8, h0 => exact h0
  | 9, h0 => exact h0
  | 10, h0 => exact h0
  | 11, h0 => exact h0
  | 12, h0 => exact h0
  | 13, h0 => exact h0
  | 14, h0 => exact h0
  | 15, h0 => exact h0
  | 20, h0 => exact h0
  | 21, h0 => exact h0
  | 16, h0 => exact .inl hn
  | 17, h0 => exact .inl hn
  | 18, h0 => exact .inl hn
  | 19, h0 => exact absurd rfl hk
  | 22, h0 => exact h0
  | k + 23, h0 => trivial
theorem rpF_end {w W : World} {h : Hp} {b : Nat} {A : Option Addr} {ca : Nat} {js : List SJ} {ent : ByteArray} {per kn fo : Int} {xs : List SItem} {D : Option Addr} {cd : Nat} {ls : Array Bool} {k : Nat} {v : Value} {V V' : World} (hn : (ls.setIfInBounds 22 true).getD 22 false = true) (h19 : ls.getD 19 false = true) (h0 : rpF w W h b A ca js ent per kn fo xs D cd ls k v V) : rpF w W h b A ca js ent per kn fo xs D cd (ls.setIfInBounds 22 true) k v V' := by
  match k, h0 with
  | 0, h0 => exact h0
  | 1, h0 => exact h0
  | 2, h0 => exact h0
  | 3, h0 => exact h0
  | 4, h0 => exact h0
  | 5, h0 => exact h0
  | 6, h0 => exact h0
  | 7, h0 => exact h0
  | 8, h0 => exact h0
  | 9, h0 => exact h0
  | 10, h0 => exact h0
  | 11, h0 => exact h0
  | 12, h0 => exact h0
  | 13, h0 => exact h0
  | 14, h0 => exact h0
  | 15, h0 => exact h0
  | 20, h0 => exact h0
  | 21, h0 => exact h0
  | 16, h0 => exact .inl (getD_up h19)
  | 17, h0 => exact .inl (getD_up h19)
  | 18, h0 => exact .inl (getD_up h19)
  | 19, h0 => exact .inl hn
  | 22, h0 => exact h0
  | k + 23, h0 => trivial
theorem rpG_below {w W : World} {h : Hp} {b : Nat} {js : List SJ} {y : SJ} {TS : TypeId} {ls : Array Bool} {i : Nat} {V V' : World} (hi : i ≠ 19) (hj : i ≠ 22) (B : Below V.heap.size V V') (g : rpG w W h b js y TS ls V) : rpG w W h b js y TS (ls.setIfInBounds i true) V' := by
  refine ⟨fun h0 => ?_, fun h0 => ?_⟩
  · rw [getD_set_ne hi] at h0
    have := g.1 h0
    exact this.trans (B.mono this.size)
  · rw [getD_set_ne hj] at h0
    obtain ⟨C, n, h3, o, u, hb⟩ := g.2 h0
    exact ⟨C, n, h3, o, u.after B, hb⟩
end Go.Sl
end
