/- Walks and plain facts that the laws of this seat share, part 6: contracts of functions, each said at its theorem. -/
import Derived.Test.YtdcfojohgcmpcaaPk5
import Derived.Maps.Own
import Derived.Maps.OwnOps
import Derived.Maps.OwnSet
import Derived.Deep.DeepCutAuto
import Derived.Deep.CutBlock
import Derived.BigQuiet
set_option linter.all false
section
/- A map from whole numbers to whole numbers in a body's own memory: it reads as a rising list of items. -/
namespace Go.Sl
open Go Go.RowKit Go.Maps
/-- What a map of items reads as. -/
def datI (l : List SItem) : DataW Unit := .map (l.map fun x => (.int .i64 x.kind, .lit (.int .i64 x.amt)))
theorem same_int (a b : Int) : (Lit.int .i64 a).sameKey (.int .i64 b) = decide (a = b) := by simp [Lit.sameKey]
theorem before_int (a b : Int) : (Lit.int .i64 a).before (.int .i64 b) = decide (a < b) := rfl
theorem find_datI (k : Int) : ∀ l : List SItem, DistI l → (datI l).atKey (.int .i64 k) (.lit (.int .i64 0)) = .lit (.int .i64 (accSum k l)) := by
  intro l h
  unfold datI DataW.atKey
  simp only
  induction l with
  | nil => rfl
  | cons y l ih =>
    obtain ⟨h1, h2⟩ := List.pairwise_cons.1 h
    simp only [List.map_cons, List.find?_cons, same_int]
    by_cases hk : y.kind = k
    · have : decide (y.kind = k) = true := by simp [hk]
      rw [this]
      simp only [accSum, if_pos hk]
      rw [acc_miss (k := k) fun ⟨z, hz, e⟩ => h1 z hz (hk.trans e.symm)]; simp
    · have : decide (y.kind = k) = false := by simp [hk]
      rw [this]
      simp only [accSum, if_neg hk, Int.zero_add]
      exact ih h2
theorem put_datI (x : SItem) : ∀ l : List SItem, RisingI l → (datI l).put (.int .i64 x.kind) (.lit (.int .i64 (accSum x.kind l + x.amt))) = datI (insR l x) := by
  intro l h
  unfold datI DataW.put
  simp only [DataW.map.injEq]
  induction l with
  | nil => simp [insR, accSum, DataW.insert]
  | cons y l ih =>
    obtain ⟨h1, h2⟩ := List.pairwise_cons.1 h
    have hlt : ∀ z ∈ l, y.kind < z.kind := fun z hz => by have := h1 z hz; simpa [ordInt, ikey] using this
    unfold insR
    by_cases a1 : y.kind < x.kind
    · rw [if_pos a1]
      have e1 : accSum x.kind (y :: l) = accSum x.kind l := by simp only [accSum]; rw [if_neg (by omega)]; omega
      have e2 : (decide (y.kind = x.kind)) = false := by simp; omega
      have e3 : decide (x.kind < y.kind) = false := by simp; omega
      rw [e1]
      simp only [List.map_cons, List.filter_cons, same_int, e2, Bool.not_false, if_true, DataW.insert, before_int, e3, Bool.false_eq_true, if_false]
      rw [← ih h2]
    · rw [if_neg a1]
      have hall : (l.map fun x => ((.int .i64 x.kind : Lit), (.lit (.int .i64 x.amt) : DataW Unit))).filter (fun p => !p.1.sameKey (.int .i64 x.kind)) = l.map fun x => ((.int .i64 x.kind : Lit), (.lit (.int .i64 x.amt) : DataW Unit)) := by
        rw [List.filter_eq_self]
        intro p hp
        obtain ⟨z, hz, rfl⟩ := List.mem_map.1 hp
        have := hlt z hz
        simp [same_int]; omega
      have hfront : ∀ (m : List SItem) (d : DataW Unit), (∀ z ∈ m, x.kind < z.kind) → DataW.insert (Lit.int .i64 x.kind, d) (m.map fun x => ((.int .i64 x.kind : Lit), (.lit (.int .i64 x.amt) : DataW Unit))) = (Lit.int .i64 x.kind, d) :: m.map fun x => ((.int .i64 x.kind : Lit), (.lit (.int .i64 x.amt) : DataW Unit)) := by
        intro m d hm
        cases m with
        | nil => rfl
        | cons z m =>
          have := hm z (by simp)
          simp [DataW.insert, before_int, this]
      by_cases a2 : y.kind = x.kind
      · rw [if_pos a2]
        have e1 : accSum x.kind (y :: l) = y.amt := by
          simp only [accSum, if_pos a2]
          rw [acc_miss (k := x.kind) fun ⟨z, hz, e⟩ => by have := hlt z hz; omega]; omega
        have e2 : (decide (y.kind = x.kind)) = true := by simp [a2]
        rw [e1]
        simp only [List.map_cons, List.filter_cons, same_int, e2, Bool.not_true, Bool.false_eq_true, if_false]
        have := hall
        rw [this, hfront l _ (fun z hz => by have := hlt z hz; omega), a2]
      · rw [if_neg a2]
        have e1 : accSum x.kind (y :: l) = 0 := acc_miss (k := x.kind) fun ⟨z, hz, e⟩ => by
          rcases List.mem_cons.1 hz with rfl | hz
          · omega
          · have := hlt z hz; omega
        have e2 : (decide (y.kind = x.kind)) = false := by simp [a2]
        rw [e1]
        have h3 := hfront (y :: l) (.lit (.int .i64 (0 + x.amt))) (fun z hz => by
          rcases List.mem_cons.1 hz with rfl | hz
          · omega
          · have := hlt z hz; omega)
        simp only [List.map_cons, List.filter_cons, same_int, e2, Bool.not_false, if_true]
        have := hall
        rw [this]
        simp only [List.map_cons] at h3
        rw [h3, Int.zero_add]
end Go.Sl
namespace Go.Proofs.Ytdcfojohgcmpcaa
open Go.RowKit Go.Sl Go.Maps
set_option maxHeartbeats 1000000
set_option maxRecDepth 100000
theorem intKeyed : Keyed Try.prog 3 := int_keyed Try.underlying3
theorem zeroInt (w : World) : (zeroValue 3).run Try.prog w = .ok (.int .i64 0) w := by kernel_rfl
/-- A map that reads as a list of items. -/
def MapI (h : Hp) (b : Nat) (l : List SItem) : Prop := ∃ es clock, h = Hp.one b (.map es clock) ∧ ∀ W : World, W.heap[b]? = some (.map es clock) → W.ownsMap Try.prog 3 (plainElem (H := Unit) Try.prog 3) b l.length (datI l)
theorem ownsMap_of_block {W V : World} {b n : Nat} {D : DataW Unit} (o : W.ownsMap Try.prog 3 (plainElem Try.prog 3) b n D) {es : Array MapEntry} {clock : Nat} (hW : W.heap[b]? = some (.map es clock)) (hV : V.heap[b]? = some (.map es clock)) :
    V.ownsMap Try.prog 3 (plainElem Try.prog 3) b n D := by
  obtain ⟨es', clock', hb, F, hs, hD⟩ := o
  rw [hW] at hb
  cases hb
  exact ⟨es, clock, hV, F, hs, hD⟩
theorem MapI.new {w0 w : World} {L : List Hp} (E : Env w0 w L) : ∃ h, MapI h w.heap.size [] ∧ Env w0 (w.alloc (.map #[] 0)) (L ++ [h]) :=
  ⟨_, ⟨#[], 0, rfl, fun W hW => ownsMap_of_block (World.ownsMap_made w _ _ _) (heap_new_at rfl) hW⟩, E.new (Upd.newBlock w _)⟩
section
variable {h : Hp} {b : Nat} {l : List SItem} {W : World}
theorem MapI.own (m : MapI h b l) (s : h.sub W) : W.ownsMap Try.prog 3 (plainElem (H := Unit) Try.prog 3) b l.length (datI l) := by
  obtain ⟨es, clock, rfl, o⟩ := m
  exact o W (s b _ (Hp.one_self _ _))
theorem wf64 {k : Int} (hk : I64 k) : (Lit.int .i64 k).wf = true := by
  unfold I64 at hk
  exact WalkArith.wf_i64 (by omega)
theorem MapI.look (m : MapI h b l) (s : h.sub W) (hr : RisingI l) {k : Int} (hk : I64 k) : (Instr.lookup 48 (.map (some b)) (.int .i64 k) false).run Try.prog W = .ok (.int .i64 (accSum k l)) W := by
  obtain ⟨c, hrun, hat, _⟩ := (m.own s).lookup_int intKeyed Try.underlying48 Try.underlying3 (zeroInt _) (keyOf_int_mk Try.underlying3 (wf64 hk))
  rw [find_datI k l hr.dist] at hat
  simp only [DataW.lit.injEq, Lit.int.injEq, true_and] at hat
  rw [hrun, hat]
theorem MapI.store (m : MapI h b l) (s : h.sub W) (hr : RisingI l) (x : SItem) (hk : I64 x.kind) (hv : I64 (accSum x.kind l + x.amt)) (hl : l.length ≤ 1000) :
    ∃ h' W', (Instr.mapUpdate 48 (.map (some b)) (.int .i64 x.kind) (.int .i64 (accSum x.kind l + x.amt))).run Try.prog W = .ok () W' ∧ MapI h' b (insR l x) ∧ Upd h h' W W' := by
  obtain ⟨w', hrun, o', hg⟩ := (m.own s).update (d := .lit (.int .i64 (accSum x.kind l + x.amt))) (ps := []) intKeyed Try.underlying48 (by unfold maxLen; omega) (keyOf_int_mk Try.underlying3 (wf64 hk)) (plainElem_int Try.underlying3 (wf64 hv))
  rw [put_datI x l hr] at o'
  obtain ⟨es0, c0, rfl, _⟩ := m
  have ho := o'
  obtain ⟨es, clock, hb, F, hs, hD⟩ := o'
  have hsz : es.size = (insR l x).length := by
    have h1 := congrArg (fun d => Maps.size d) hD
    simp only [datI, Maps.size_eq, List.length_map, length_sorted] at h1
    simp at h1
    exact h1.symm
  refine ⟨Hp.one b (.map es clock), w', hrun, ⟨es, clock, rfl, fun V hV => ⟨es, clock, hV, F, by omega, hD⟩⟩, hg.os, hg.tape, hg.output, hg.size, fun q hq hn => hg.block q hq (fun e => ?_), Hp.one_sub hb, fun q hq => ?_⟩
  · cases e; rw [Hp.one_self] at hn; cases hn
  · simp only [Hp.one] at hq
    split at hq
    · rename_i e; subst e; left; simp [Hp.one]
    · exact absurd rfl hq
theorem MapI.size (m : MapI h b l) (s : h.sub W) : ∃ es clock, W.heap[b]? = some (.map es clock) ∧ es.size = l.length := by
  obtain ⟨es, clock, hb, F, hs, hD⟩ := m.own s
  refine ⟨es, clock, hb, ?_⟩
  have h1 := congrArg (fun d => Maps.size d) hD
  simp only [datI, Maps.size_eq, List.length_map, length_sorted] at h1
  simp at h1
  exact h1.symm
end
/-- A store into a map, by its run. -/
theorem wpList_mapUpdate_run {P : Program} (w : World) {ops : Array Oper} {rest : List Oper} {o : Oper} {a : Act} {Q : Exit → Act → World → Prop}
    (hg : o.guard = none) (m x v : Operand) (t : TypeId) (hop : o.op = Op.mapUpdate t m x v) (vm key val : Value) (hm : a.eval m = vm) (hx : a.eval x = key) (hv : a.eval v = val) (w' : World)
    (hrun : (Instr.mapUpdate t vm key val).run P w = .ok () w') (hK : wpList P ops Q rest (a.put o.dst undef) w') : wpList P ops Q (o :: rest) a w := by
  refine wpList_plain hg fun K' hK' => ?_
  unfold Oper.wp
  simp [execOp, hop, hm, hx, hv, hrun, Result.andThen]
  exact hK' _ _ hK
end Go.Proofs.Ytdcfojohgcmpcaa
end
section
/- The walk of law25.FxAdds. -/
namespace Go.Proofs.Ytdcfojohgcmpcaa
open Go.RowKit Go.Sl Go.Maps
set_option maxHeartbeats 4000000
set_option maxRecDepth 100000
theorem lt_of_some' {α : Type} {xs : List α} {i : Nat} {x : α} (h : xs[i]? = some x) : i < xs.length := (List.getElem?_eq_some_iff.1 h).1
theorem mkItems_kind (ks ams : List Int) (n : Nat) : ∀ x ∈ mkItems ks ams n, 0 ≤ x.kind ∧ x.kind ≤ 9 := fun x hx => by
  obtain ⟨p, _, rfl⟩ := List.mem_map.1 hx
  have h1 := within_lo p.1 (n := 9) (by omega)
  have h2 := within_hi p.1 (n := 9) (by omega)
  exact ⟨h1, by simp only; omega⟩
theorem fxAdds_calls (A B D : Option Addr) (ca cb cd : Nat) (ks ams other : List Int) (h1 h2 h3 : Hp) (w : World) (hs1 : h1.sub w) (hs2 : h2.sub w) (hs3 : h3.sub w)
    (s1 : Sl kInt h1 A ca ks) (s2 : Sl kInt h2 B cb ams) (s3 : Sl kInt h3 D cd other) (w2 : ∀ n ∈ ams, I64 n) :
    Calls Try.prog 6 #[.slice A ks.length ca, .slice B ams.length cb, .slice D other.length cd] w fun e w' => e = .returned (.bool true) ∧ Below w.heap.size w w' := by
  have hmm := @run_makeMap Try.prog
  have E0 := Env.start w
  have la : (mkItems ks ams 15).length ≤ 15 := by simp [mkItems]; omega
  have lb : (mkItems other ams 15).length ≤ 15 := by simp [mkItems]; omega
  have kx := mkItems_kind ks ams 15
  have ky := mkItems_kind other ams 15
  have RA := fun (l : List Hp) (W : World) (E : Env w W l) => Itm.items E hs1 hs2 s1 s2 w2 15 (by omega) _ _ rfl rfl
  have RB := fun (l : List Hp) (W : World) (E : Env w W l) => Itm.items E hs3 hs2 s3 s2 w2 15 (by omega) _ _ rfl rfl
  generalize mkItems ks ams 15 = xs at *
  generalize mkItems other ams 15 = ys at *
  clear hs1 hs2 hs3 s1 s2 s3 w2
  have KX := Lib.hid kx
  have KY := Lib.hid ky
  clear kx ky
  go_enter Try.func6, Try.ntmps6
  go_wp2_with fail
  refine (RA _ _ E0).mono ?_
  rintro e w1 ⟨C1, n1, hA, rfl, o1, E1⟩
  simp at E1
  go_wp2_with fail
  refine (RB _ _ E1).mono ?_
  rintro e w2 ⟨C2, n2, hB, rfl, o2, E2⟩
  simp at E2
  clear RA RB E1
  obtain ⟨hM, M0, E3⟩ := MapI.new E2
  simp at E3
  go_upto_region 3 with fail
  clear E2 hmm
  generalize w2.heap.size = bm at *
  go_wp2_with fail
  go_loopw [24] (fun i wr => ∃ (j : Nat) (zs ms : List SItem) (hz hm : Hp), j ≤ xs.length ∧ i = .int .i64 j ∧ Hid (zs = (xs.take j).map modI ++ xs.drop j) ∧ Hid (zs.length = xs.length) ∧ Ow kItem hz C1 n1 zs ∧ Hid (ms = refAdd ((xs.take j).map modI)) ∧ MapI hm bm ms ∧ Env w wr [hz, hB, hm]) (fun i _ => xs.length - (intOf i).toNat)
  case atStart => exact ⟨0, xs, [], hA, hM, by omega, rfl, rfl, rfl, o1, by unfold Hid; rfl, M0, E3⟩
  case round =>
    clear E3 o1 M0
    obtain ⟨j, zs, ms, hz, hm, hj, rfl, hzz, hzl, oz, hms, M, E⟩ := hrel
    by_cases hlt : j < xs.length
    · obtain ⟨x, hx⟩ := some_of_lt hlt
      have hzx : Hid (zs[j]? = some x) := by unfold Hid; rw [hzz.out, map_get_step]; exact hx.out
      obtain ⟨b1, off1, rfl, c1, c2⟩ := oz.sl.item (E.sub 0 rfl) hzx
      have hfz := oz.cell_free (E.sub 0 rfl) (lt_of_some hzx.out)
      have i1 : (0 : Int) ≤ (j : Int) := by omega
      have i2 : (j : Int) < (xs.length : Int) := by omega
      obtain ⟨hv, ov, uv⟩ := Ow.set (x' := modI x) (v := .int .i64 (x.amt.tmod 1000000)) (j := 1) oz (E.sub 0 rfl) hzx.out (by decide) rfl
      have EV := E.upd 0 rfl uv
      simp at EV
      clear uv
      have hk1 := KX.out x (List.mem_of_getElem? hx.out)
      have hms1 : RisingI ms := by rw [hms.out]; exact refAdd_rising _
      have hab : -31000000 ≤ accSum x.kind ms ∧ accSum x.kind ms ≤ 31000000 := by
        have e1 := foldl_acc acc_insR x.kind ((xs.take j).map modI) []
        have e2 : accSum x.kind ms = accSum x.kind ((xs.take j).map modI) := by rw [hms.out]; unfold refAdd; rw [e1]; simp [accSum]
        have e3 := accSum_bd (b := 1000000) (by omega) x.kind ((xs.take j).map modI) (fun y hy => by
          obtain ⟨z, _, rfl⟩ := List.mem_map.1 hy; exact modI_bd z)
        have e4 : ((xs.take j).map modI).length ≤ 30 := by simp; omega
        rw [e2]; omega
      have hmb := modI_bd x
      have HMX : Hid (x.amt.tmod 1000000 = (modI x).amt) := rfl
      have HMK : Hid (x.kind = (modI x).kind) := rfl
      have hml : ms.length ≤ 1000 := by
        have := refAdd_len ((xs.take j).map modI)
        rw [← hms.out] at this
        have e4 : ((xs.take j).map modI).length ≤ 30 := by simp; omega
        omega
      have I1 : I64 x.kind := by unfold I64; omega
      have HIN : Hid (insR ms (modI x) = refAdd ((xs.take (j + 1)).map modI)) := by
        unfold Hid; rw [take_next hx, List.map_append, hms.out]; exact (refAdd_snoc _ _).symm
      have hzv : Hid ((zs.set j (modI x))[j]? = some (modI x)) := List.getElem?_set_self (lt_of_some' hzx.out)
      go_upto_region 7 with fail
      obtain ⟨WV, hWV⟩ : ∃ WV, WV = wr.setCell ⟨b1, off1 + j * 2 + 1, none⟩ (.int .i64 (x.amt.tmod 1000000)) := ⟨_, rfl⟩
      rw [← hWV] at EV
      try rw [← hWV]
      clear hWV c1 c2 hfz
      obtain ⟨b1', off1', e1, c1, c2⟩ := ov.sl.item (EV.sub 0 rfl) hzv
      cases e1
      have hlook := fun n : Nat => M.look (W := WV.drewN n) (((EV.drewN n).sub 2 rfl)) hms1 I1
      have hlook1 := M.look (W := WV.drew) ((EV.drew).sub 2 rfl) hms1 I1
      have hlook0 := M.look (W := WV) (EV.sub 2 rfl) hms1 I1
      have hmod : (modI x).kind = x.kind := rfl
      obtain ⟨hm', W', hrun, M', u'⟩ := M.store (W := WV.drew) (EV.drew.sub 2 rfl) hms1 (modI x) (by rw [hmod]; exact I1) (by rw [hmod]; unfold I64; omega) hml
      rw [HIN.out] at M'
      have E6 := EV.drew.upd 2 rfl u'
      simp at E6
      rw [hmod] at hrun c1
      generalize accSum x.kind ms = sm at *
      generalize (modI x).amt = am at *
      clear u' hmod HMX HMK
      have hwr : IntKind.i64.wrap (sm + am) = sm + am := by rw [IntKind.wrap_i64]; omega
      refine wp_region_still_tail 12 (by kernel_rfl) (by kernel_rfl) ?_
      simp only [List.take_succ_cons, List.take_zero, List.drop_succ_cons, List.drop_zero]
      repeat still_step
      refine wpStill_nil ?_
      change wpList _ _ _ _ _ WV.drew
      go_wp2_with (refine wpList_mapUpdate_run _ rfl _ _ _ _ rfl _ _ _ rfl rfl rfl W' hrun ?_)
      go_roundw
      case rel => exact ⟨j + 1, zs.set j (modI x), _, hv, hm', by omega, by go_num, by unfold Hid; rw [hzz.out, map_set_step _ _ _ _ hx.out], by unfold Hid; rw [List.length_set]; exact hzl.out, ov, rfl, M', E6⟩
      case measure => simp [intOf]; omega
    · obtain rfl : j = xs.length := by omega
      have HM : Hid (zs = xs.map modI) := by unfold Hid; rw [hzz.out, List.drop_length, List.append_nil, List.take_length]
      rw [List.take_length] at hms
      clear hzz hlt
      obtain ⟨hY, hhY⟩ : ∃ hY, hz = hY := ⟨_, rfl⟩
      obtain ⟨hm0, hhm⟩ : ∃ hm0, hm = hm0 := ⟨_, rfl⟩
      obtain ⟨ms0, hhs⟩ : ∃ ms0, ms = ms0 := ⟨_, rfl⟩
      obtain ⟨ax, has⟩ : ∃ ax, zs = ax := ⟨_, rfl⟩
      rw [hhY] at E oz
      rw [hhm] at E M
      rw [hhs] at M hms
      rw [has] at oz HM hzl
      have E9 := E
      have oX := oz
      have M1 := M
      have hms0 := hms
      have HX := HM
      have HXL := hzl
      clear E oz M hms HM hzl hhY hhm hhs has
      clear hz hm ms zs
      go_wp2_with fail
      go_loopw [51] (fun i wr => ∃ (j : Nat) (zs ms : List SItem) (hz hm : Hp), j ≤ ys.length ∧ i = .int .i64 j ∧ Hid (zs = (ys.take j).map modI ++ ys.drop j) ∧ Hid (zs.length = ys.length) ∧ Ow kItem hz C2 n2 zs ∧ Hid (ms = refAdd (xs.map modI ++ (ys.take j).map modI)) ∧ MapI hm bm ms ∧ Env w wr [hY, hz, hm]) (fun i _ => ys.length - (intOf i).toNat)
      case atStart => exact ⟨0, ys, ms0, hB, hm0, by omega, rfl, rfl, rfl, o2, by unfold Hid; rw [hms0.out]; simp, M1, E9⟩
      case round =>
        clear E9 o2 M1 hms0
        obtain ⟨j, zs, ms, hz, hm, hj, rfl, hzz, hzl, oz, hms, M, E⟩ := hrel
        by_cases hlt : j < ys.length
        · obtain ⟨x, hx⟩ := some_of_lt hlt
          have hzx : Hid (zs[j]? = some x) := by unfold Hid; rw [hzz.out, map_get_step]; exact hx.out
          obtain ⟨b1, off1, rfl, c1, c2⟩ := oz.sl.item (E.sub 1 rfl) hzx
          have hfz := oz.cell_free (E.sub 1 rfl) (lt_of_some hzx.out)
          have i1 : (0 : Int) ≤ (j : Int) := by omega
          have i2 : (j : Int) < (ys.length : Int) := by omega
          obtain ⟨hv, ov, uv⟩ := Ow.set (x' := modI x) (v := .int .i64 (x.amt.tmod 1000000)) (j := 1) oz (E.sub 1 rfl) hzx.out (by decide) rfl
          have EV := E.upd 1 rfl uv
          simp at EV
          clear uv
          have hk1 := KY.out x (List.mem_of_getElem? hx.out)
          have hms1 : RisingI ms := by rw [hms.out]; exact refAdd_rising _
          have hab : -31000000 ≤ accSum x.kind ms ∧ accSum x.kind ms ≤ 31000000 := by
            have e1 := foldl_acc acc_insR x.kind (xs.map modI ++ (ys.take j).map modI) []
            have e2 : accSum x.kind ms = accSum x.kind (xs.map modI ++ (ys.take j).map modI) := by rw [hms.out]; unfold refAdd; rw [e1]; simp [accSum]
            have e3 := accSum_bd (b := 1000000) (by omega) x.kind (xs.map modI ++ (ys.take j).map modI) (fun y hy => by
              rcases List.mem_append.1 hy with hy | hy <;> (obtain ⟨z, _, rfl⟩ := List.mem_map.1 hy; exact modI_bd z))
            have e4 : (xs.map modI ++ (ys.take j).map modI).length ≤ 30 := by simp; omega
            rw [e2]; omega
          have hmb := modI_bd x
          have HMX : Hid (x.amt.tmod 1000000 = (modI x).amt) := rfl
          have HMK : Hid (x.kind = (modI x).kind) := rfl
          have hml : ms.length ≤ 1000 := by
            have := refAdd_len (xs.map modI ++ (ys.take j).map modI)
            rw [← hms.out] at this
            have e4 : (xs.map modI ++ (ys.take j).map modI).length ≤ 30 := by simp; omega
            omega
          have I1 : I64 x.kind := by unfold I64; omega
          have HIN : Hid (insR ms (modI x) = refAdd (xs.map modI ++ (ys.take (j + 1)).map modI)) := by
            unfold Hid; rw [take_next hx, List.map_append, hms.out, ← List.append_assoc]; exact (refAdd_snoc _ _).symm
          have hzv : Hid ((zs.set j (modI x))[j]? = some (modI x)) := List.getElem?_set_self (lt_of_some' hzx.out)
          go_upto_region 13 with fail
          obtain ⟨WV, hWV⟩ : ∃ WV, WV = wr.setCell ⟨b1, off1 + j * 2 + 1, none⟩ (.int .i64 (x.amt.tmod 1000000)) := ⟨_, rfl⟩
          rw [← hWV] at EV
          try rw [← hWV]
          clear hWV c1 c2 hfz
          obtain ⟨b1', off1', e1, c1, c2⟩ := ov.sl.item (EV.sub 1 rfl) hzv
          cases e1
          have hlook := fun n : Nat => M.look (W := WV.drewN n) (((EV.drewN n).sub 2 rfl)) hms1 I1
          have hlook1 := M.look (W := WV.drew) ((EV.drew).sub 2 rfl) hms1 I1
          have hlook0 := M.look (W := WV) (EV.sub 2 rfl) hms1 I1
          have hmod : (modI x).kind = x.kind := rfl
          obtain ⟨hm', W', hrun, M', u'⟩ := M.store (W := WV.drew) (EV.drew.sub 2 rfl) hms1 (modI x) (by rw [hmod]; exact I1) (by rw [hmod]; unfold I64; omega) hml
          rw [HIN.out] at M'
          have E6 := EV.drew.upd 2 rfl u'
          simp at E6
          rw [hmod] at hrun c1
          generalize accSum x.kind ms = sm at *
          generalize (modI x).amt = am at *
          clear u' hmod HMX HMK
          have hwr : IntKind.i64.wrap (sm + am) = sm + am := by rw [IntKind.wrap_i64]; omega
          refine wp_region_still_tail 12 (by kernel_rfl) (by kernel_rfl) ?_
          simp only [List.take_succ_cons, List.take_zero, List.drop_succ_cons, List.drop_zero]
          repeat still_step
          refine wpStill_nil ?_
          change wpList _ _ _ _ _ WV.drew
          go_wp2_with (refine wpList_mapUpdate_run _ rfl _ _ _ _ rfl _ _ _ rfl rfl rfl W' hrun ?_)
          go_roundw
          case rel => exact ⟨j + 1, zs.set j (modI x), _, hv, hm', by omega, by go_num, by unfold Hid; rw [hzz.out, map_set_step _ _ _ _ hx.out], by unfold Hid; rw [List.length_set]; exact hzl.out, ov, rfl, M', E6⟩
          case measure => simp [intOf]; omega
        · obtain rfl : j = ys.length := by omega
          have HM : Hid (zs = ys.map modI) := by unfold Hid; rw [hzz.out, List.drop_length, List.append_nil, List.take_length]
          rw [List.take_length] at hms
          clear hzz hlt
          have bX : BdL 1000000000 ax := by rw [HX.out]; exact modL_bd _
          have bY : BdL 1000000000 zs := by rw [HM.out]; exact modL_bd _
          have lX : ax.length ≤ 15 := by rw [HXL.out]; omega
          have lY : zs.length ≤ 15 := by rw [hzl.out]; omega
          obtain ⟨LL, hLL⟩ : ∃ LL, fxAdd (ax ++ zs) = LL := ⟨_, rfl⟩
          have HLL := Lib.hid hLL
          have HLM : ms = LL := by rw [hms.out, ← hLL, fxAdd_ref, HX.out, HM.out]
          subst HLM
          have HLC : Hid (fxAdd (zs ++ ax) = ms) := by unfold Hid; rw [fxAdd_comm]; exact hLL
          have HLR : Hid (RisingI ms) := by unfold Hid; rw [← hLL]; exact fxAdd_rising _
          have HLN : Hid (fxAdd (ms ++ []) = ms) := by unfold Hid; rw [List.append_nil, ← hLL, fxAdd_again]
          have lL : ms.length ≤ 30 := by have := fxAdd_len (ax ++ zs); rw [hLL, List.length_append] at this; omega
          have bL : BdL 1000000000 ms := fun x hx => by
            have h1 := ((fxAdd_mem (ax ++ zs) x).1 (by rw [hLL]; exact hx)).2
            have h2 := accSum_bd (b := 1000000) (by omega) x.kind (ax ++ zs) (fun y hy => by
              rcases List.mem_append.1 hy with hy | hy
              · rw [HX.out] at hy; obtain ⟨z, _, rfl⟩ := List.mem_map.1 hy; exact modI_bd z
              · rw [HM.out] at hy; obtain ⟨z, _, rfl⟩ := List.mem_map.1 hy; exact modI_bd z)
            have h3 : (ax ++ zs).length ≤ 30 := by rw [List.length_append]; omega
            rw [h1]; omega
          have KL : Hid (∀ x ∈ ms, 0 ≤ x.kind ∧ x.kind ≤ 9) := fun x hx => by
            obtain ⟨y, hy, e⟩ := ((fxAdd_mem (ax ++ zs) x).1 (by rw [hLL]; exact hx)).1
            rw [← e]
            rcases List.mem_append.1 hy with hy | hy
            · rw [HX.out] at hy; obtain ⟨z, hz, rfl⟩ := List.mem_map.1 hy; exact KX.out z hz
            · rw [HM.out] at hy; obtain ⟨z, hz, rfl⟩ := List.mem_map.1 hy; exact KY.out z hz
          clear hLL HX HM hms
          go_wp2_with fail
          refine (Itm.add E (E.sub 0 rfl) (E.sub 1 rfl) oX.sl oz.sl (by omega) (by omega) bX bY _ _ HXL.out hzl.out HLL.out).mono ?_
          rintro e w8 ⟨C8, n8, h8, rfl, o8, F1⟩
          simp at F1
          clear E
          go_wp2
          go_loopw [81] (fun i wr => ∃ (j : Nat), j ≤ ms.length ∧ i = .int .i64 j ∧ Env w wr [hY, hz, hm, h8]) (fun i _ => ms.length - (intOf i).toNat)
          case atStart => exact ⟨0, by omega, rfl, F1⟩
          case round =>
            clear F1
            obtain ⟨j, hj, rfl, E⟩ := hrel
            by_cases hlt : j < ms.length
            · obtain ⟨x, hx⟩ := some_of_lt hlt
              have hxm := List.mem_of_getElem? hx.out
              obtain ⟨b1, off1, rfl, c1, c2⟩ := o8.sl.item (E.sub 3 rfl) hx
              have i1 : (0 : Int) ≤ (j : Int) := by omega
              have i2 : (j : Int) < (ms.length : Int) := by omega
              have hkk := KL.out x hxm
              have I1 : I64 x.kind := by unfold I64; omega
              have EA := E.alloc (.cells #[.int .i64 x.kind, .int .i64 x.amt] 36)
              simp at EA
              obtain ⟨WA, hWA⟩ : ∃ WA, WA = wr.alloc (.cells #[.int .i64 x.kind, .int .i64 x.amt] 36) := ⟨_, rfl⟩
              go_upto_region 19 with fail
              rw [← hWA] at EA
              rw [← hWA]
              clear hWA c1 c2
              generalize wr.heap.size = q at *
              have g0 := EA.cell 4 rfl 0 rfl
              have g1 := EA.cell 4 rfl 1 rfl
              have hlook := fun n : Nat => M.look (W := WA.drewN n) ((EA.drewN n).sub 2 rfl) HLR.out I1
              have hacc := HLR.out.dist.acc x hxm
              rw [hacc] at hlook
              clear hacc hkk hxm
              by_cases h0 : j = 0
              · have t0 : decide ((0 : Int) < (j : Int)) = false := by simp [h0]
                subst h0
                go_quiet (fail)
                have EB := (EA.drewN nq).drop 4
                simp at EB
                clear EA g0 g1 hlook
                go_wp2
                go_roundw
                case rel => exact ⟨1, by omega, by rfl, EB⟩
                case measure => simp [intOf]; omega
              · obtain ⟨m, hm'⟩ : ∃ m : Nat, ((j : Int) - 1).toNat = m := ⟨_, rfl⟩
                obtain ⟨y, hy⟩ := some_of_lt (show m < ms.length by omega)
                obtain ⟨b1', off1', e1, c1, c2⟩ := o8.sl.item (EA.sub 3 rfl) hy
                cases e1
                have hyk : y.kind < x.kind := by
                  have h1 := List.pairwise_iff_getElem.1 HLR.out m j (by omega) hlt (by omega)
                  have e1 := (List.getElem?_eq_some_iff.1 hx.out).2
                  have e2 := (List.getElem?_eq_some_iff.1 hy.out).2
                  rw [e1, e2] at h1
                  simpa [ordInt, ikey] using h1
                have t5 : decide (x.kind ≤ y.kind) = false := by simp; omega
                have j1 : 1 ≤ (j : Int) := by omega
                have j2 : (j : Int) ≤ (ms.length : Int) := by omega
                have j3 : (0 : Int) < (j : Int) := by omega
                have j4 : 0 < j := by omega
                go_quiet (fail)
                have EB := (EA.drewN nq).drop 4
                simp at EB
                clear EA g0 g1 hlook c1 c2
                go_wp2
                go_roundw
                case rel => exact ⟨j + 1, by omega, by go_num, EB⟩
                case measure => simp [intOf]; omega
            · obtain rfl : j = ms.length := by omega
              have hlen : ∀ ty, (Builtin.len_ #[48] ty #[.map (some bm)]).run Try.prog wr = .ok (.int .i64 (ms.length : Int)) wr := fun ty => by
                have h := (M.own (E.sub 2 rfl)).len Try.underlying48 ty
                rw [h]; simp [datI, Maps.size_eq]
              go_wp2_with fail
              refine (Itm.add E (E.sub 1 rfl) (E.sub 0 rfl) oz.sl oX.sl (by omega) (by omega) bY bX _ _ hzl.out HXL.out HLC.out).mono ?_
              rintro e w9 ⟨C9, n9, h9, rfl, o9, F2⟩
              simp at F2
              clear hlen
              go_wp2_with fail
              refine (Itm.same F2 (F2.sub 3 rfl) (F2.sub 4 rfl) o8.sl o9.sl _ _ rfl rfl rfl).mono ?_
              rintro e w10 ⟨rfl, F3⟩
              go_wp2_with fail
              refine (Itm.add F3 (F3.sub 3 rfl) (Hp.none_sub _) o8.sl (Sl.none _ _) (by omega) (by simp) bL (by intro x hx; simp at hx) _ 0 rfl rfl HLN.out).mono ?_
              rintro e w11 ⟨C11, n11, h11, rfl, o11, F4⟩
              simp at F4
              go_wp2_with fail
              refine (Itm.same F4 (F4.sub 5 rfl) (F4.sub 3 rfl) o11.sl o8.sl _ _ rfl rfl rfl).mono ?_
              rintro e w12 ⟨rfl, F5⟩
              go_wp2_with fail
              refine (wakes25 _).mono ?_
              rintro e w13 ⟨rfl, B13⟩
              go_wp2
              go_ret
              exact ⟨rfl, (F5.below B13).low⟩
end Go.Proofs.Ytdcfojohgcmpcaa
end
