/- Walks and plain facts that the laws of this seat share, part 7: contracts of functions, each said at its theorem. -/
import Derived.Test.YtnfedcaehkcffaaGreatPk6
import Derived.Shelf.Abstract
import Derived.Deep.DeepCutAuto
import Derived.Deep.RegionLaw
import Derived.OwnWalk
import Derived.BigQuiet
import Derived.WalkKit
import Derived.Deep.RegionHeld3
set_option linter.all false
section
/- Deferred tax, plain. No program is named here. -/
namespace Go.Sl
open Go Go.RowKit
def ratOk (l : List SRate) (j : ByteArray) (at' : Int) (x : STri) : Bool := rateB l j (max x.b (yearOf at')) at'
def ratOf (l : List SRate) (j : ByteArray) (at' : Int) (x : STri) : Int := rateV l j (max x.b (yearOf at')) at'
def ratE (l : List SRate) (j : ByteArray) (xs : List STri) (at' : Int) : Int := if perOk at' = false then 1 else if xs.all (ratOk l j at') = true then 0 else 7
def ratL (l : List SRate) (j : ByteArray) (xs : List STri) (at' : Int) : List Int := xs.map (ratOf l j at')
def nextY (at' : Int) : Int := min (yearOf at' + 1) 99
def nextE (l : List SRate) (j : ByteArray) (at' : Int) : Int := if perOk at' = false then 1 else if rateB l j (nextY at') at' = true then 0 else 7
def nextV (l : List SRate) (j : ByteArray) (at' : Int) : Int := if nextE l j at' = 0 then rateV l j (nextY at') at' else 0
def shareE (n r : Int) : Int := if (decide (0 ≤ n) && (money n && rightRate r)) = true then 0 else 1
def shareV (n r : Int) : Int := if shareE n r = 0 then ofVal n r else 0
section
variable {l : List SRate} {j : ByteArray} {xs : List STri} {at' : Int}
theorem ratE_bad {i : Nat} {x : STri} (hp : perOk at' = true) (hx : xs[i]? = some x) (h : ratOk l j at' x = false) : ratE l j xs at' = 7 := by
  unfold ratE
  rw [if_neg (by rw [hp]; decide), if_neg]
  intro ha
  rw [List.all_eq_true.1 ha x (List.mem_of_getElem? hx)] at h; cases h
theorem ratE_ok (hp : perOk at' = true) (h : ∀ x ∈ xs, ratOk l j at' x = true) : ratE l j xs at' = 0 := by
  unfold ratE
  rw [if_neg (by rw [hp]; decide), if_pos (List.all_eq_true.2 h)]
theorem ratL_snoc {i : Nat} {x : STri} (hx : Hid (xs[i]? = some x)) : ratL l j (xs.take (i + 1)) at' = ratL l j (xs.take i) at' ++ [ratOf l j at' x] := by
  unfold ratL; rw [take_next hx, List.map_append]; rfl
theorem ratL_right (g : GoodT l) : ∀ r ∈ ratL l j xs at', rightRate r = true := fun r hr => by
  obtain ⟨x, _, rfl⟩ := List.mem_map.1 hr
  exact rateV_bd g
theorem yearOf_bd (p : Int) : -1 ≤ yearOf p ∧ yearOf p ≤ 99 := by
  unfold yearOf
  split
  · rename_i h; simp [perOk] at h; omega
  · omega
end
end Go.Sl
end
section
/- What the type table says of enact.Row. -/
namespace Go.Proofs.YtnfedcaehkcffaaGreat
open Go.RowKit Go.Sl
set_option maxHeartbeats 1000000
set_option maxRecDepth 100000
theorem info_rrow : Info Tryz.prog 112 (.agg #[.string ⟨#[]⟩, .int .i64 0, .int .i64 0, .int .i64 0]) 4 40 := by unfold Info; kernel_rfl
end Go.Proofs.YtnfedcaehkcffaaGreat
end
section
/- slices.IndexFunc over enact.Row, whatever the predicate. -/
namespace Go.Proofs.YtnfedcaehkcffaaGreat
open Go.RowKit Go.Sl
set_option maxHeartbeats 1000000
set_option maxRecDepth 100000
theorem indexFunc_rrow (g : FuncId) (lb : Array Value) (eg : Enters Tryz.prog g) (p : SRate → Bool) (A : Option Addr) (ca : Nat) (xs : List SRate) (h : Hp) (w : World) (hs : h.sub w) (sx : Sl kRate h A ca xs)
    (hp : ∀ (x : SRate) (W : World), Below w.heap.size w W → Calls Tryz.prog g (#[.agg #[.string x.j, .int .i64 x.yr, .int .i64 x.rt, .int .i64 x.per]] ++ lb) W fun e W' => e = .returned (.bool (p x)) ∧ Below W.heap.size W W') :
    Calls Tryz.prog 101 #[.slice A xs.length ca, .func (.func g) #[] lb] w fun e w' => e = .returned (.int .i64 (idx p xs)) ∧ Below w.heap.size w w' := by
  have m1 := sx.small
  have eg' := fun (args : Array Value) (w : World) => eg args w
  go_enter Tryz.func101, Tryz.ntmps101
  go_wp2
  go_loopw [8] (fun i wr => ∃ (j : Nat), j ≤ xs.length ∧ i = .int .i64 j ∧ Hid (∀ y ∈ xs.take j, p y = false) ∧ Below w.heap.size w wr) (fun i _ => xs.length - (intOf i).toNat)
  case atStart => exact ⟨0, by omega, rfl, by unfold Hid; simp, Below.refl _ _⟩
  case round =>
    obtain ⟨j, hj, rfl, hn, hb⟩ := hrel
    by_cases hlt : j < xs.length
    · obtain ⟨x, hx⟩ := some_of_lt hlt
      obtain ⟨b1, o1, rfl, c1, c2, c3, c4⟩ := sx.rate (hs.of_below hb) hx
      have i1 : (0 : Int) ≤ (j : Int) := by omega
      have i2 : (j : Int) < (xs.length : Int) := by omega
      have hpx := Lib.hid (hp x wr hb)
      by_cases hpp : p x = true
      · have HF : Hid (idx p xs = j) := idx_hit hn.out hx.out hpp
        go_wp2_with fail
        refine hpx.out.mono ?_
        rintro e w1 ⟨rfl, b1⟩
        go_wp2
        go_ret
        exact ⟨by rw [HF.out]; rfl, hb.trans (b1.mono hb.size)⟩
      · have hpf : p x = false := by simpa using hpp
        have HN : Hid (∀ y ∈ xs.take (j + 1), p y = false) := by
          intro y hy
          rw [take_next hx] at hy
          rcases List.mem_append.1 hy with hy | hy
          · exact hn.out y hy
          · simp at hy; subst hy; exact hpf
        clear hpp
        go_wp2_with fail
        refine hpx.out.mono ?_
        rintro e w1 ⟨rfl, b1⟩
        go_wp2
        go_roundw
        case rel => exact ⟨j + 1, by omega, by go_num, HN, hb.trans (b1.mono hb.size)⟩
        case measure => simp [intOf]; omega
    · have HF : Hid (idx p xs = -1) := idx_miss (fun y hy => hn.out y (by rw [List.take_of_length_le (by omega)]; exact hy))
      go_wp2
      go_ret
      exact ⟨by rw [HF.out]; rfl, hb⟩
end Go.Proofs.YtnfedcaehkcffaaGreat
end
section
/- slices.ContainsFunc over enact.Row, whatever the predicate. -/
namespace Go.Proofs.YtnfedcaehkcffaaGreat
open Go.RowKit Go.Sl
set_option maxHeartbeats 1000000
set_option maxRecDepth 100000
theorem containsFunc_rrow (g : FuncId) (lb : Array Value) (eg : Enters Tryz.prog g) (p : SRate → Bool) (A : Option Addr) (ca : Nat) (xs : List SRate) (h : Hp) (w : World) (hs : h.sub w) (sx : Sl kRate h A ca xs)
    (hp : ∀ (x : SRate) (W : World), Below w.heap.size w W → Calls Tryz.prog g (#[.agg #[.string x.j, .int .i64 x.yr, .int .i64 x.rt, .int .i64 x.per]] ++ lb) W fun e W' => e = .returned (.bool (p x)) ∧ Below W.heap.size W W') :
    Calls Tryz.prog 50 #[.slice A xs.length ca, .func (.func g) #[] lb] w fun e w' => e = .returned (.bool (xs.any p)) ∧ Below w.heap.size w w' := by
  have C := indexFunc_rrow g lb eg p A ca xs h w hs sx hp
  have HI := Lib.hid (idx_any p xs)
  go_enter Tryz.func50, Tryz.ntmps50
  go_wp2_with fail
  refine C.mono ?_
  rintro e w1 ⟨rfl, b1⟩
  go_wp2
  go_ret
  exact ⟨by rw [← HI.out]; rfl, b1⟩
end Go.Proofs.YtnfedcaehkcffaaGreat
end
section
/- The walks of enact: New, Rate, Add; period. -/
namespace Go.Sl
open Go Go.RowKit
def bcells (o : Option SRate) : List Value := match o with | none => [.string ⟨#[]⟩, .int .i64 0, .int .i64 0, .int .i64 0] | some b => [.string b.j, .int .i64 b.yr, .int .i64 b.rt, .int .i64 b.per]
end Go.Sl
namespace Go.Proofs.YtnfedcaehkcffaaGreat
open Go.RowKit Go.Sl
set_option maxHeartbeats 2000000
set_option maxRecDepth 100000
abbrev PtT (h : Hp) (b : Nat) (l : List SRate) : Prop := Pt (kOne kRate) 117 h b l
theorem perRight_calls (p : Int) (w : World) : Calls Tryz.prog 49 #[.int .i64 p] w fun e w' => e = .returned (.bool (perOk p)) ∧ w = w' := by
  go_enter Tryz.func49, Tryz.ntmps49
  go_wp2
  all_goals
    go_ret
    exact ⟨by simp [perOk]; omega, rfl⟩
theorem perYear_calls (p : Int) (w : World) : Calls Tryz.prog 56 #[.int .i64 p] w fun e w' => e = .returned (.int .i64 (yearOf p)) ∧ w = w' := by
  have RC := fun W : World => perRight_calls p W
  have HY : yearOf p = if perOk p then p / 4 else -1 := rfl
  cases h : perOk p with
  | false =>
    rw [h] at HY RC
    have HYh : Hid (yearOf p = -1) := by unfold Hid; rw [HY]; rfl
    clear HY h
    go_enter Tryz.func56, Tryz.ntmps56
    go_wp2_with fail
    refine (RC _).mono ?_
    rintro e w' ⟨rfl, rfl⟩
    go_wp2
    go_ret
    exact ⟨by rw [HYh.out]; rfl, rfl⟩
  | true =>
    have hb : 0 ≤ p ∧ p ≤ 399 := by simpa [perOk] using h
    rw [h] at HY RC
    have HYh : Hid (yearOf p = p / 4) := by unfold Hid; rw [HY]; rfl
    clear HY h
    go_enter Tryz.func56, Tryz.ntmps56
    go_wp2_with fail
    refine (RC _).mono ?_
    rintro e w' ⟨rfl, rfl⟩
    go_wp2
    go_ret
    exact ⟨by rw [HYh.out]; rfl, rfl⟩
theorem enactNew_calls (w : World) : Calls Tryz.prog 22 #[] w fun e w' => ∃ h b, e = .returned (.pointer (some ⟨b, 0, none⟩)) ∧ PtT h b [] ∧ Upd Hp.none h w w' := by
  go_enter Tryz.func22, Tryz.ntmps22
  go_wp2
  go_ret
  exact ⟨_, _, rfl, ⟨_, Hp.one_self _ _, none, 0, rfl, Ow.none _ _⟩, Upd.newBlock w _⟩
theorem enactRate_calls (b : Nat) (l : List SRate) (j : ByteArray) (y at' : Int) (h : Hp) (w : World) (hs : h.sub w) (p : PtT h b l) :
    Calls Tryz.prog 103 #[.pointer (some ⟨b, 0, none⟩), .string j, .int .i64 y, .int .i64 at'] w fun e w' => e = .returned (.tuple #[.int .i64 (rateV l j y at'), .bool (rateB l j y at')]) ∧ Below w.heap.size w w' := by
  obtain ⟨A, ca, hb, hc, ow, _⟩ := p.one hs
  have sx := ow.sl.mono (Hp.del_le h b)
  have m1 := sx.small
  have hlt := World.block_lt_of_cell? _ _ hc
  have E0 := (Env.start w).alloc (.cells #[.string ⟨#[]⟩, .int .i64 0, .int .i64 0, .int .i64 0] 112)
  simp at E0
  go_enter Tryz.func103, Tryz.ntmps103
  go_wp2
  generalize hbB : w.heap.size = bB at *
  go_loopw [11, 20] (fun s i' wr => ∃ (i : Nat), i ≤ l.length ∧ i' = .int .i64 i ∧ s = .bool (bestR (l.take i) j y at').isSome ∧ Env w wr [Hp.box bB (bcells (bestR (l.take i) j y at')) 112]) (fun _ i _ => l.length - (intOf i).toNat)
  case atStart => exact ⟨0, by omega, rfl, rfl, E0⟩
  case round =>
    clear E0
    obtain ⟨i, hi, rfl, rfl, E⟩ := hrel
    by_cases hlt2 : i < l.length
    · obtain ⟨x, hx⟩ := some_of_lt hlt2
      obtain ⟨b1, o1, rfl, c1, c2, c3, c4⟩ := sx.rate (hs.of_below E.low) hx
      have i1 : (0 : Int) ≤ (i : Int) := by omega
      have i2 : (i : Int) < (l.length : Int) := by omega
      have HB : Hid (bestR (l.take (i + 1)) j y at' = better j y at' (bestR (l.take i) j y at') x) := bestR_snoc hx
      generalize bestR (l.take i) j y at' = best at *
      go_upto_region 5 with fail
      replace E := E.alloc (.cells #[.string x.j, .int .i64 x.yr, .int .i64 x.rt, .int .i64 x.per] 112)
      simp at E
      obtain ⟨W, hW⟩ : ∃ W : World, W = wr.alloc (.cells #[.string x.j, .int .i64 x.yr, .int .i64 x.rt, .int .i64 x.per] 112) := ⟨_, rfl⟩
      rw [← hW] at E
      rw [← hW]
      clear hW
      have q0 := E.cell 1 rfl 0 rfl
      have q1 := E.cell 1 rfl 1 rfl
      have q2 := E.cell 1 rfl 2 rfl
      have q3 := E.cell 1 rfl 3 rfl
      clear c1 c2 c3 c4
      by_cases h1 : x.j = j
      case neg =>
        have t1 : (x.j.toList == j.toList) = false := beq_eq_false_iff_ne.2 fun e => h1 (tl_inj e)
        have t1' : (x.j.toList != j.toList) = true := by simp [bne, t1]
        have HB : Hid (bestR (l.take (i + 1)) j y at' = best) := by unfold Hid; rw [HB.out]; unfold better; rw [if_neg fun e => h1 e.1]
        clear h1
        have E6 := E.drop 1
        simp at E6
        go_wp2
        go_roundw
        case rel => exact ⟨i + 1, by omega, by go_num, by rw [HB.out], by rw [HB.out]; exact E6⟩
        case measure => simp [intOf]; omega
      have t1 : (x.j.toList == j.toList) = true := by rw [h1]; simp
      have t1' : (x.j.toList != j.toList) = false := by rw [h1]; simp
      by_cases h2 : y < x.yr
      · have HB : Hid (bestR (l.take (i + 1)) j y at' = best) := by unfold Hid; rw [HB.out]; unfold better; rw [if_neg fun e => e.2.1 h2]
        clear h1
        have E6 := E.drop 1
        simp at E6
        go_wp2
        go_roundw
        case rel => exact ⟨i + 1, by omega, by go_num, by rw [HB.out], by rw [HB.out]; exact E6⟩
        case measure => simp [intOf]; omega
      by_cases h3 : at' < x.per
      · have HB : Hid (bestR (l.take (i + 1)) j y at' = best) := by unfold Hid; rw [HB.out]; unfold better; rw [if_neg fun e => e.2.2 h3]
        clear h1
        have E6 := E.drop 1
        simp at E6
        go_wp2
        go_roundw
        case rel => exact ⟨i + 1, by omega, by go_num, by rw [HB.out], by rw [HB.out]; exact E6⟩
        case measure => simp [intOf]; omega
      have HB1 := better_in (best := best) h1 h2 h3
      clear h1
      cases best with
      | none =>
        have HB : Hid (bestR (l.take (i + 1)) j y at' = some x) := by unfold Hid; rw [HB.out, HB1]; rfl
        clear HB1
        unfold bcells at E
        have e1 := E.cell 0 rfl 1 rfl
        have e0 := E.cell 0 rfl 0 rfl
        have e2 := E.cell 0 rfl 2 rfl
        have e3 := E.cell 0 rfl 3 rfl
        have ef := fun k => E.free 0 rfl k
        go_wp2
        have E5q0 := E.cellset 0 rfl 0 (.string x.j)
        simp only [List.set_cons_zero, List.set_cons_succ] at E5q0
        have E5q1 := E5q0.cellset 0 rfl 1 (.int .i64 x.yr)
        simp only [List.set_cons_zero, List.set_cons_succ] at E5q1
        clear E5q0
        have E5q2 := E5q1.cellset 0 rfl 2 (.int .i64 x.rt)
        simp only [List.set_cons_zero, List.set_cons_succ] at E5q2
        clear E5q1
        have E5 := E5q2.cellset 0 rfl 3 (.int .i64 x.per)
        simp only [List.set_cons_zero, List.set_cons_succ] at E5
        clear E5q2
        have E6 := E5.drop 1
        simp at E6
        go_roundw
        case rel => exact ⟨i + 1, by omega, by go_num, by rw [HB.out]; rfl, by rw [HB.out]; exact E6⟩
        case measure => simp [intOf]; omega
      | some bb =>
        unfold bcells at E
        simp only at E
        have e0 := E.cell 0 rfl 0 rfl
        have e1 := E.cell 0 rfl 1 rfl
        have e2 := E.cell 0 rfl 2 rfl
        have e3 := E.cell 0 rfl 3 rfl
        have ef := fun k => E.free 0 rfl k
        by_cases h4 : bb.yr < x.yr
        · have HB : Hid (bestR (l.take (i + 1)) j y at' = some x) := by unfold Hid; rw [HB.out, HB1]; show (if _ then _ else _) = _; rw [if_pos (.inl h4)]
          clear HB1
          go_wp2
          have E5q0 := E.cellset 0 rfl 0 (.string x.j)
          simp only [List.set_cons_zero, List.set_cons_succ] at E5q0
          have E5q1 := E5q0.cellset 0 rfl 1 (.int .i64 x.yr)
          simp only [List.set_cons_zero, List.set_cons_succ] at E5q1
          clear E5q0
          have E5q2 := E5q1.cellset 0 rfl 2 (.int .i64 x.rt)
          simp only [List.set_cons_zero, List.set_cons_succ] at E5q2
          clear E5q1
          have E5 := E5q2.cellset 0 rfl 3 (.int .i64 x.per)
          simp only [List.set_cons_zero, List.set_cons_succ] at E5
          clear E5q2
          have E6 := E5.drop 1
          simp at E6
          go_roundw
          case rel => exact ⟨i + 1, by omega, by go_num, by rw [HB.out]; rfl, by rw [HB.out]; exact E6⟩
          case measure => simp [intOf]; omega
        by_cases h5 : x.yr = bb.yr
        · have t5 : (x.yr == bb.yr) = true := by simpa using h5
          by_cases h6 : bb.per < x.per
          · have HB : Hid (bestR (l.take (i + 1)) j y at' = some x) := by unfold Hid; rw [HB.out, HB1]; show (if _ then _ else _) = _; rw [if_pos (.inr ⟨h5, h6⟩)]
            clear HB1 h5
            go_wp2
            have E5q0 := E.cellset 0 rfl 0 (.string x.j)
            simp only [List.set_cons_zero, List.set_cons_succ] at E5q0
            have E5q1 := E5q0.cellset 0 rfl 1 (.int .i64 x.yr)
            simp only [List.set_cons_zero, List.set_cons_succ] at E5q1
            clear E5q0
            have E5q2 := E5q1.cellset 0 rfl 2 (.int .i64 x.rt)
            simp only [List.set_cons_zero, List.set_cons_succ] at E5q2
            clear E5q1
            have E5 := E5q2.cellset 0 rfl 3 (.int .i64 x.per)
            simp only [List.set_cons_zero, List.set_cons_succ] at E5
            clear E5q2
            have E6 := E5.drop 1
            simp at E6
            go_roundw
            case rel => exact ⟨i + 1, by omega, by go_num, by rw [HB.out]; rfl, by rw [HB.out]; exact E6⟩
            case measure => simp [intOf]; omega
          · have HB : Hid (bestR (l.take (i + 1)) j y at' = some bb) := by unfold Hid; rw [HB.out, HB1]; show (if _ then _ else _) = _; rw [if_neg (by omega)]
            clear HB1 h5
            have E6 := E.drop 1
            simp at E6
            go_wp2
            go_roundw
            case rel => exact ⟨i + 1, by omega, by go_num, by rw [HB.out], by rw [HB.out]; exact E6⟩
            case measure => simp [intOf]; omega
        · have t5 : (x.yr == bb.yr) = false := by simpa using h5
          have HB : Hid (bestR (l.take (i + 1)) j y at' = some bb) := by unfold Hid; rw [HB.out, HB1]; show (if _ then _ else _) = _; rw [if_neg (by omega)]
          clear HB1 h5
          have E6 := E.drop 1
          simp at E6
          go_wp2
          go_roundw
          case rel => exact ⟨i + 1, by omega, by go_num, by rw [HB.out], by rw [HB.out]; exact E6⟩
          case measure => simp [intOf]; omega
    · obtain rfl : i = l.length := by omega
      rw [List.take_length] at E ⊢
      have HV : Hid (rateV l j y at' = match bestR l j y at' with | some b => b.rt | none => 0) := rfl
      have HO : Hid (rateB l j y at' = (bestR l j y at').isSome) := rfl
      generalize bestR l j y at' = best at *
      cases best with
      | none =>
        unfold bcells at E
        have e2 := E.cell 0 rfl 2 rfl
        go_wp2
        go_ret2
        exact ⟨by rw [HV.out, HO.out]; rfl, by rw [← hbB]; exact E.low⟩
      | some bb =>
        unfold bcells at E
        simp only at E
        have e2 := E.cell 0 rfl 2 rfl
        go_wp2
        go_ret2
        exact ⟨by rw [HV.out, HO.out]; rfl, by rw [← hbB]; exact E.low⟩
theorem enactSame_calls (x : SRate) (b1 b2 b3 : Nat) (j : ByteArray) (y at' : Int) (W : World) (c5 : W.cell? ⟨b1, 0, none⟩ = some (.string j)) (c6 : W.cell? ⟨b2, 0, none⟩ = some (.int .i64 y)) (c7 : W.cell? ⟨b3, 0, none⟩ = some (.int .i64 at')) :
    Calls Tryz.prog 47 #[.agg #[.string x.j, .int .i64 x.yr, .int .i64 x.rt, .int .i64 x.per], .pointer (some ⟨b1, 0, none⟩), .pointer (some ⟨b2, 0, none⟩), .pointer (some ⟨b3, 0, none⟩)] W fun e W' => e = .returned (.bool (isR j y at' x)) ∧ Below W.heap.size W W' := by
  have c5a := fun o => (cell_alloc (o := o) (World.block_lt_of_cell? _ _ c5)).trans c5
  have c6a := fun o => (cell_alloc (o := o) (World.block_lt_of_cell? _ _ c6)).trans c6
  have c7a := fun o => (cell_alloc (o := o) (World.block_lt_of_cell? _ _ c7)).trans c7
  have HI : isR j y at' x = decide (x.j = j ∧ x.yr = y ∧ x.per = at') := rfl
  generalize isR j y at' x = r at *
  by_cases h1 : x.j = j
  case neg =>
    have t1 : (x.j.toList == j.toList) = false := beq_eq_false_iff_ne.2 fun e => h1 (tl_inj e)
    have hr : Hid (r = false) := by unfold Hid; rw [HI]; simp [h1]
    clear HI h1
    go_enter Tryz.func47, Tryz.ntmps47
    go_wp2
    go_ret
    exact ⟨by rw [hr.out]; rfl, (by repeat (first | exact Below.refl _ _ | apply Below.drew | refine Below.alloc ?_ (by simp) _))⟩
  have t1 : (x.j.toList == j.toList) = true := by rw [h1]; simp
  by_cases h2 : x.yr = y
  case neg =>
    have t2 : (x.yr == y) = false := by simpa using h2
    have hr : Hid (r = false) := by unfold Hid; rw [HI]; simp [h2]
    clear HI h1 h2
    go_enter Tryz.func47, Tryz.ntmps47
    go_wp2
    go_ret
    exact ⟨by rw [hr.out]; rfl, (by repeat (first | exact Below.refl _ _ | apply Below.drew | refine Below.alloc ?_ (by simp) _))⟩
  have t2 : (x.yr == y) = true := by simpa using h2
  by_cases h3 : x.per = at'
  · have t3 : (x.per == at') = true := by simpa using h3
    have hr : Hid (r = true) := by unfold Hid; rw [HI]; simp [h1, h2, h3]
    clear HI h1 h2 h3
    go_enter Tryz.func47, Tryz.ntmps47
    go_wp2
    go_ret
    exact ⟨by rw [hr.out]; rfl, (by repeat (first | exact Below.refl _ _ | apply Below.drew | refine Below.alloc ?_ (by simp) _))⟩
  · have t3 : (x.per == at') = false := by simpa using h3
    have hr : Hid (r = false) := by unfold Hid; rw [HI]; simp [h3]
    clear HI h1 h2 h3
    go_enter Tryz.func47, Tryz.ntmps47
    go_wp2
    go_ret
    exact ⟨by rw [hr.out]; rfl, (by repeat (first | exact Below.refl _ _ | apply Below.drew | refine Below.alloc ?_ (by simp) _))⟩
end Go.Proofs.YtnfedcaehkcffaaGreat
end
section
/- The walk of enact.Add. -/
namespace Go.Proofs.YtnfedcaehkcffaaGreat
open Go.RowKit Go.Sl
set_option maxHeartbeats 4000000
set_option maxRecDepth 100000
/-- What Add returns. -/
def TAns (b : Nat) (l : List SRate) (j : ByteArray) (y r at' : Int) (h : Hp) (w : World) (e : Ending) (w' : World) : Prop := ∃ h', e = .returned (.int .i64 (tabE l j y r at')) ∧ PtT h' b (tabAdd l j y r at') ∧ Upd h h' w w'
theorem TAns.no {b : Nat} {l : List SRate} {j : ByteArray} {y r at' : Int} {h : Hp} {w w' : World} {E : Int} (hE : tabE l j y r at' = E) (h0 : E ≠ 0) (hp : PtT h b l) (hs : h.sub w) (hb : Below w.heap.size w w') :
    TAns b l j y r at' h w (.returned (.int .i64 E)) w' := ⟨h, by rw [hE], by unfold tabAdd; rw [hE, if_neg h0]; exact hp, Upd.stay hs hb⟩
theorem enactAdd_calls (b : Nat) (l : List SRate) (j : ByteArray) (y r at' : Int) (h : Hp) (w : World) (hs : h.sub w) (hp : PtT h b l) (g : GoodT l) :
    Calls Tryz.prog 15 #[.pointer (some ⟨b, 0, none⟩), .string j, .int .i64 y, .int .i64 r, .int .i64 at'] w (TAns b l j y r at' h w) := by
  obtain ⟨A, ca, hb, hc, ow, hf⟩ := hp.one hs
  have hlt : b < w.heap.size := World.block_lt_of_cell? _ _ hc
  have lm := ow.small
  have gl := g.len
  have RC := fun W : World => rateRight_calls r W
  have PC := fun W : World => perRight_calls at' W
  have EW := (((Env.start w).alloc (.cells #[.string j] 9)).alloc (.cells #[.int .i64 y] 3)).alloc (.cells #[.int .i64 at'] 3)
  simp at EW
  have HE : Hid (tabE l j y r at' = if tabArg j y r at' = false then 1 else if l.any (isR j y at') = true then 4 else if 24 ≤ l.length then 5 else 0) := rfl
  cases e0 : j.toList.isEmpty with
  | true =>
    have HE1 : Hid (tabE l j y r at' = 1) := by unfold Hid; rw [HE.out, if_pos (by simp [tabArg, noS, e0])]
    have e0' : j.toList = [] := by simpa using e0
    clear RC PC
    go_enter Tryz.func15, Tryz.ntmps15
    go_wp2
    go_ret
    exact .no HE1.out (by decide) hp hs EW.low
  | false =>
  by_cases h1 : y < 0
  · have HE1 : Hid (tabE l j y r at' = 1) := by unfold Hid; rw [HE.out, if_pos (by simp [tabArg]; omega)]
    clear RC PC
    go_enter Tryz.func15, Tryz.ntmps15
    go_wp2
    go_ret
    exact .no HE1.out (by decide) hp hs EW.low
  by_cases h2 : 99 < y
  · have HE1 : Hid (tabE l j y r at' = 1) := by unfold Hid; rw [HE.out, if_pos (by simp [tabArg]; omega)]
    clear RC PC
    go_enter Tryz.func15, Tryz.ntmps15
    go_wp2
    go_ret
    exact .no HE1.out (by decide) hp hs EW.low
  cases e3 : rightRate r with
  | false =>
    have HE1 : Hid (tabE l j y r at' = 1) := by unfold Hid; rw [HE.out, if_pos (by simp [tabArg, e3])]
    rw [e3] at RC
    clear e3 PC
    go_enter Tryz.func15, Tryz.ntmps15
    go_wp2_with fail
    refine (RC _).mono ?_
    rintro e w' ⟨rfl, rfl⟩
    go_wp2
    go_ret
    exact .no HE1.out (by decide) hp hs EW.low
  | true =>
  cases e4 : perOk at' with
  | false =>
    have HE1 : Hid (tabE l j y r at' = 1) := by unfold Hid; rw [HE.out, if_pos (by simp [tabArg, e4])]
    rw [e3] at RC
    rw [e4] at PC
    clear e3 e4
    go_enter Tryz.func15, Tryz.ntmps15
    go_wp2_with fail
    refine (RC _).mono ?_
    rintro e w' ⟨rfl, rfl⟩
    go_wp2_with fail
    refine (PC _).mono ?_
    rintro e w' ⟨rfl, rfl⟩
    go_wp2
    go_ret
    exact .no HE1.out (by decide) hp hs EW.low
  | true =>
  have hy1 : 0 ≤ y := by omega
  have hy2 : y ≤ 99 := by omega
  have HE2 : Hid (tabE l j y r at' = if l.any (isR j y at') = true then 4 else if 24 ≤ l.length then 5 else 0) := by unfold Hid; rw [HE.out, if_neg (by simp [tabArg, noS, e0, e3, e4]; omega)]
  rw [e3] at RC
  rw [e4] at PC
  clear e3 e4 HE h1 h2
  have eg : ∀ args w, (callFunc 47 args).run Tryz.prog w = .ok (.enter 47 args) w := enters_of Tryz.func47 (by kernel_rfl) rfl
  have IC := fun (W : World) (E : Env w W [Hp.box w.heap.size [.string j] 9, Hp.box (w.heap.size + 1) [.int .i64 y] 3, Hp.box (w.heap.size + 1 + 1) [.int .i64 at'] 3]) =>
    containsFunc_rrow 47 #[.pointer (some ⟨w.heap.size, 0, none⟩), .pointer (some ⟨w.heap.size + 1, 0, none⟩), .pointer (some ⟨w.heap.size + 1 + 1, 0, none⟩)] eg (isR j y at') A ca l (h.del b) W ((hs.del b).of_below E.low) ow.sl
      (fun x W' hW => enactSame_calls x w.heap.size (w.heap.size + 1) (w.heap.size + 1 + 1) j y at' W' ((E.below hW).cell 0 rfl 0 rfl) ((E.below hW).cell 1 rfl 0 rfl) ((E.below hW).cell 2 rfl 0 rfl))
  have hcE := (EW.low.cell (p := ⟨b, 0, none⟩) hlt).trans hc
  have k0 := EW.cell 0 rfl 0 rfl
  have k1 := EW.cell 1 rfl 0 rfl
  have k2 := EW.cell 2 rfl 0 rfl
  cases ha : l.any (isR j y at') with
  | true =>
    have HE3 : Hid (tabE l j y r at' = 4) := by unfold Hid; rw [HE2.out, if_pos ha]
    rw [ha] at IC
    clear ha HE2
    go_enter Tryz.func15, Tryz.ntmps15
    go_wp2_with fail
    refine (RC _).mono ?_
    rintro e w' ⟨rfl, rfl⟩
    go_wp2_with fail
    refine (PC _).mono ?_
    rintro e w' ⟨rfl, rfl⟩
    go_wp2_with fail
    refine (IC _ EW).mono ?_
    rintro e w1 ⟨rfl, b1⟩
    go_wp2
    go_ret
    exact .no HE3.out (by decide) hp hs (EW.below b1).low
  | false =>
  have HE3 : Hid (tabE l j y r at' = if 24 ≤ l.length then 5 else 0) := by unfold Hid; rw [HE2.out, if_neg (by rw [ha]; decide)]
  rw [ha] at IC
  clear ha HE2
  go_enter Tryz.func15, Tryz.ntmps15
  go_wp2_with fail
  refine (RC _).mono ?_
  rintro e w' ⟨rfl, rfl⟩
  go_wp2_with fail
  refine (PC _).mono ?_
  rintro e w' ⟨rfl, rfl⟩
  go_wp2_with fail
  refine (IC _ EW).mono ?_
  rintro e w1 ⟨rfl, b1⟩
  have E1 := EW.below b1
  clear hcE k0 k1 k2 IC RC PC eg
  have hc1 := (E1.low.cell (p := ⟨b, 0, none⟩) hlt).trans hc
  have hf1 := (E1.low.frozen (p := ⟨b, 0, none⟩) hlt).trans (hf 0)
  have k0 := E1.cell 0 rfl 0 rfl
  have k1 := E1.cell 1 rfl 0 rfl
  have k2 := E1.cell 2 rfl 0 rfl
  by_cases h5 : 24 ≤ l.length
  · have t5 : decide ((24 : Int) ≤ (l.length : Int)) = true := by simp; omega
    have HE4 : Hid (tabE l j y r at' = 5) := by unfold Hid; rw [HE3.out, if_pos h5]
    clear HE3 h5
    go_wp2
    go_ret
    exact .no HE4.out (by decide) hp hs E1.low
  · have t5 : decide ((24 : Int) ≤ (l.length : Int)) = false := by simp; omega
    have HE4 : Hid (tabE l j y r at' = 0) := by unfold Hid; rw [HE3.out, if_neg h5]
    have HR : Hid (tabAdd l j y r at' = l ++ [⟨j, y, r, at'⟩]) := by unfold Hid tabAdd; rw [if_pos HE4.out]
    clear HE3
    have hd1 := (hs.del b).of_below E1.low
    have hne : (h.del b) b = Option.none := Hp.del_self
    have hlt2 := World.block_lt_of_cell? _ _ hc1
    have hca2 : ∀ o, (w1.alloc o).cell? ⟨b, 0, none⟩ = some (.slice A l.length ca) := fun o => (cell_alloc hlt2).trans hc1
    have hfa2 : ∀ o, (w1.alloc o).frozen? ⟨b, 0, none⟩ = false := fun o => (frozen_alloc hlt2).trans hf1
    go_upto_region 8 with fail
    go_region_law (refine step_app1f (h := h.del b) (xs := l) (A := A) (cap := ca) (y := ⟨j, y, r, at'⟩) Tryz.underlying115 info_rrow (by rfl) (by rfl) rfl l.length 1 (by rfl) (by rfl) rfl ow (hd1.of_below (by repeat (first | exact Below.refl _ _ | apply Below.drew | refine Below.alloc ?_ (by simp) _))) (heap_new_at (by simp)) rfl (by omega) (by omega) ?_; intro C' cap' w3 h3 ho3 hu3; have hcv : w3.cell? ⟨b, 0, none⟩ = _ := hu3.cell (hca2 _) hne; have hfv : w3.frozen? ⟨b, 0, none⟩ = _ := (hu3.frozen (p := ⟨b, 0, none⟩) (by have := World.block_lt_of_cell? _ _ (hca2 (.cells #[] 0)); simp at this ⊢; omega) hne).trans (hfa2 _))
    all_goals
      have U0 : Upd (h.del b) h3 w w3 := hu3.before (by repeat (first | exact E1.low | apply Below.drew | refine Below.alloc ?_ E1.low.size _))
      go_wp2
      obtain ⟨UF, hn3⟩ := Upd.field (v := .slice C' (l.length + 1) cap') 0 hb hs (Hp.le_refl _) U0
      go_ret
      exact ⟨_, by rw [HE4.out]; rfl, ⟨_, Hp.put_self, C', cap', by rw [HR.out]; simp, by rw [Hp.put_del hn3, HR.out]; exact ho3⟩, UF⟩
end Go.Proofs.YtnfedcaehkcffaaGreat
end
section
/- The walks of ref01.Right, ref01.Part. -/
namespace Go.Proofs.YtnfedcaehkcffaaGreat
open Go.RowKit Go.Sl
set_option maxHeartbeats 2000000
set_option maxRecDepth 100000
theorem refRight_calls (r : Int) (w : World) : Calls Tryz.prog 85 #[.int .i64 r] w fun e w' => e = .returned (.bool (rightRate r)) ∧ w = w' := by
  go_enter Tryz.func85, Tryz.ntmps85
  go_wp2
  all_goals
    go_ret
    exact ⟨by simp [rightRate]; omega, rfl⟩
theorem refPart_calls (n r : Int) (w : World) : Calls Tryz.prog 96 #[.int .i64 n, .int .i64 r] w fun e w' => e = .returned (.int .i64 (ofVal n r)) ∧ w = w' := by
  go_enter Tryz.func96, Tryz.ntmps96
  go_wp2_with (go_at_call 145; refine (refOf_calls n r _).mono ?_; rintro e w' ⟨rfl, rfl⟩)
  go_ret
  exact ⟨rfl, rfl⟩
end Go.Proofs.YtnfedcaehkcffaaGreat
end
section
/- The walks of the reference's table: Rate. -/
namespace Go.Sl
open Go Go.RowKit
def kTab : Kd (List SRate) where
  size := 1
  K h l cs := ∃ A cap, cs = [.slice A l.length cap] ∧ Ow kRate h A cap l
  pos := by decide
  len := by rintro h x cs ⟨A, cap, rfl, _⟩; rfl
  one := by rintro h x cs ⟨A, cap, rfl, _⟩ u hu; simp at hu; subst hu; rfl
  mono := by rintro h h' x cs ⟨A, cap, e, s⟩ l; exact ⟨A, cap, e, s.mono l⟩
theorem Pt.tab {T : TypeId} {h : Hp} {b : Nat} {l : List SRate} {w : World} (p : Pt kTab T h b l) (s : h.sub w) : ∃ A ca, w.cell? ⟨b, 0, none⟩ = some (.slice A l.length ca) ∧ Sl kRate h A ca l := by
  obtain ⟨cs, hb, A, ca, rfl, ow⟩ := p
  exact ⟨A, ca, by rw [cell_of_row w b 0 _ _ _ (s b _ hb)]; rfl, ow.sl.mono (Hp.del_le _ _)⟩
/-- Where the best row stands. -/
def BestAt (l : List SRate) (best : Option SRate) (k : Int) : Prop := (best = none ∧ k = -1) ∨ ∃ (i : Nat) (b : SRate), k = i ∧ l[i]? = some b ∧ best = some b
end Go.Sl
namespace Go.Proofs.YtnfedcaehkcffaaGreat
open Go.RowKit Go.Sl
set_option maxHeartbeats 2000000
set_option maxRecDepth 100000
abbrev PtRT (h : Hp) (b : Nat) (l : List SRate) : Prop := Pt kTab 140 h b l
theorem refPer_calls (p : Int) (w : World) : Calls Tryz.prog 84 #[.int .i64 p] w fun e w' => e = .returned (.bool (perOk p)) ∧ w = w' := by
  go_enter Tryz.func84, Tryz.ntmps84
  go_wp2
  all_goals
    go_ret
    exact ⟨by simp [perOk]; omega, rfl⟩
theorem refTabRate_calls (b : Nat) (l : List SRate) (j : ByteArray) (y at' : Int) (h : Hp) (w : World) (hs : h.sub w) (p : PtRT h b l) :
    Calls Tryz.prog 86 #[.pointer (some ⟨b, 0, none⟩), .string j, .int .i64 y, .int .i64 at'] w fun e w' => e = .returned (.tuple #[.int .i64 (rateV l j y at'), .bool (rateB l j y at')]) ∧ Below w.heap.size w w' := by
  obtain ⟨A, ca, hc, sx⟩ := p.tab hs
  have m1 := sx.small
  have hlt := World.block_lt_of_cell? _ _ hc
  have E0 := Env.start w
  go_enter Tryz.func86, Tryz.ntmps86
  go_wp2
  go_loopw [10, 18] (fun s i' wr => ∃ (i : Nat) (k : Int), i ≤ l.length ∧ i' = .int .i64 i ∧ s = .int .i64 k ∧ Hid (BestAt l (bestR (l.take i) j y at') k) ∧ Env w wr []) (fun _ i _ => l.length - (intOf i).toNat)
  case atStart => exact ⟨0, -1, by omega, rfl, rfl, .inl ⟨rfl, rfl⟩, E0⟩
  case round =>
    clear E0
    obtain ⟨i, k, hi, rfl, rfl, HK, E⟩ := hrel
    have hcw := (E.low.cell hlt).trans hc
    by_cases hlt2 : i < l.length
    · obtain ⟨x, hx⟩ := some_of_lt hlt2
      obtain ⟨b1, o1, hA, c1, c2, c3, c4⟩ := sx.rate (hs.of_below E.low) hx
      subst hA
      have i1 : (0 : Int) ≤ (i : Int) := by omega
      have i2 : (i : Int) < (l.length : Int) := by omega
      have HB : Hid (bestR (l.take (i + 1)) j y at' = better j y at' (bestR (l.take i) j y at') x) := bestR_snoc hx
      have KX : ∀ V, Below w.heap.size w V → ∀ (m : Nat) (z : SRate), l[m]? = some z → V.cell? ⟨b1, o1 + m * 4 + 1, none⟩ = some (.int .i64 z.yr) ∧ V.cell? ⟨b1, o1 + m * 4 + 3, none⟩ = some (.int .i64 z.per) := fun V hV m z hm => by
        obtain ⟨b', o', e, _, h2, _, h4⟩ := sx.rate (hs.of_below hV) (show Hid (l[m]? = some z) from hm)
        cases e; exact ⟨h2, h4⟩
      generalize bestR (l.take i) j y at' = best at *
      go_upto_region 5 with fail
      replace E := E.alloc (.cells #[.string x.j, .int .i64 x.yr, .int .i64 x.rt, .int .i64 x.per] 142)
      simp at E
      obtain ⟨W, hW⟩ : ∃ W : World, W = wr.alloc (.cells #[.string x.j, .int .i64 x.yr, .int .i64 x.rt, .int .i64 x.per] 142) := ⟨_, rfl⟩
      rw [← hW] at E
      rw [← hW]
      clear hW
      have q0 := E.cell 0 rfl 0 rfl
      have q1 := E.cell 0 rfl 1 rfl
      have q2 := E.cell 0 rfl 2 rfl
      have q3 := E.cell 0 rfl 3 rfl
      have hcW := (E.low.cell hlt).trans hc
      clear c1 c2 c3 c4 hcw
      by_cases h1 : x.j = j
      case neg =>
        have t1 : (x.j.toList == j.toList) = false := beq_eq_false_iff_ne.2 fun e => h1 (tl_inj e)
        have t1' : (x.j.toList != j.toList) = true := by simp [bne, t1]
        have HB : Hid (bestR (l.take (i + 1)) j y at' = best) := by unfold Hid; rw [HB.out]; unfold better; rw [if_neg fun e => h1 e.1]
        clear h1 KX
        have E6 := E.drop 0
        simp at E6
        go_wp2
        go_roundw
        case rel => exact ⟨i + 1, _, by omega, by go_num, rfl, by rw [HB.out]; exact HK, E6⟩
        case measure => simp [intOf]; omega
      have t1 : (x.j.toList == j.toList) = true := by rw [h1]; simp
      have t1' : (x.j.toList != j.toList) = false := by rw [h1]; simp
      by_cases h3 : at' < x.per
      · have HB : Hid (bestR (l.take (i + 1)) j y at' = best) := by unfold Hid; rw [HB.out]; unfold better; rw [if_neg fun e => e.2.2 h3]
        clear h1 KX
        have E6 := E.drop 0
        simp at E6
        go_wp2
        go_roundw
        case rel => exact ⟨i + 1, _, by omega, by go_num, rfl, by rw [HB.out]; exact HK, E6⟩
        case measure => simp [intOf]; omega
      by_cases h2 : y < x.yr
      · have HB : Hid (bestR (l.take (i + 1)) j y at' = best) := by unfold Hid; rw [HB.out]; unfold better; rw [if_neg fun e => e.2.1 h2]
        clear h1 KX
        have E6 := E.drop 0
        simp at E6
        go_wp2
        go_roundw
        case rel => exact ⟨i + 1, _, by omega, by go_num, rfl, by rw [HB.out]; exact HK, E6⟩
        case measure => simp [intOf]; omega
      have HB1 := better_in (best := best) h1 h2 h3
      clear h1
      rcases HK.out with ⟨rfl, rfl⟩ | ⟨m, bb, rfl, hm, rfl⟩
      · have HB : Hid (bestR (l.take (i + 1)) j y at' = some x) := by unfold Hid; rw [HB.out, HB1]; rfl
        clear HB1 HK KX
        go_upto_region 6 with fail
        go_quiet (fail)
        have E6 := (E.drewN nq).drop 0
        simp at E6
        go_wp2
        go_roundw
        case rel => exact ⟨i + 1, (i : Int), by omega, by go_num, rfl, by rw [HB.out]; exact .inr ⟨i, x, rfl, hx.out, rfl⟩, E6⟩
        case measure => simp [intOf]; omega
      · have hml : m < l.length := (List.getElem?_eq_some_iff.1 hm).1
        have m3 : (0 : Int) ≤ (m : Int) := by omega
        have m4 : (m : Int) < (l.length : Int) := by omega
        have tm : decide ((m : Int) < 0) = false := by simp
        obtain ⟨f1, f2⟩ := KX W E.low m bb hm
        have HM := Lib.hid hm
        clear hm KX
        by_cases h4 : bb.yr < x.yr
        · have HB : Hid (bestR (l.take (i + 1)) j y at' = some x) := by unfold Hid; rw [HB.out, HB1]; show (if _ then _ else _) = _; rw [if_pos (.inl h4)]
          have t4 : decide (bb.yr < x.yr) = true := by simpa using h4
          clear HB1 HK
          go_upto_region 6 with fail
          go_quiet (fail)
          have E6 := (E.drewN nq).drop 0
          simp at E6
          go_wp2
          go_roundw
          case rel => exact ⟨i + 1, (i : Int), by omega, by go_num, rfl, by rw [HB.out]; exact .inr ⟨i, x, rfl, hx.out, rfl⟩, E6⟩
          case measure => simp [intOf]; omega
        have t4 : decide (bb.yr < x.yr) = false := by simpa using h4
        by_cases h5 : x.yr = bb.yr
        · have t5 : (x.yr == bb.yr) = true := by simpa using h5
          by_cases h6 : bb.per < x.per
          · have HB : Hid (bestR (l.take (i + 1)) j y at' = some x) := by unfold Hid; rw [HB.out, HB1]; show (if _ then _ else _) = _; rw [if_pos (.inr ⟨h5, h6⟩)]
            have t6 : decide (bb.per < x.per) = true := by simpa using h6
            clear HB1 h5 HK
            go_upto_region 6 with fail
            go_quiet (fail)
            have E6 := (E.drewN nq).drop 0
            simp at E6
            go_wp2
            go_roundw
            case rel => exact ⟨i + 1, (i : Int), by omega, by go_num, rfl, by rw [HB.out]; exact .inr ⟨i, x, rfl, hx.out, rfl⟩, E6⟩
            case measure => simp [intOf]; omega
          · have HB : Hid (bestR (l.take (i + 1)) j y at' = some bb) := by unfold Hid; rw [HB.out, HB1]; show (if _ then _ else _) = _; rw [if_neg (by omega)]
            have t6 : decide (bb.per < x.per) = false := by simpa using h6
            clear HB1 h5
            go_upto_region 6 with fail
            go_quiet (fail)
            have E6 := (E.drewN nq).drop 0
            simp at E6
            go_wp2
            go_roundw
            case rel => exact ⟨i + 1, _, by omega, by go_num, rfl, by rw [HB.out]; exact HK, E6⟩
            case measure => simp [intOf]; omega
        · have t5 : (x.yr == bb.yr) = false := by simpa using h5
          have HB : Hid (bestR (l.take (i + 1)) j y at' = some bb) := by unfold Hid; rw [HB.out, HB1]; show (if _ then _ else _) = _; rw [if_neg (by omega)]
          clear HB1 h5
          go_upto_region 6 with fail
          go_quiet (fail)
          have E6 := (E.drewN nq).drop 0
          simp at E6
          go_wp2
          go_roundw
          case rel => exact ⟨i + 1, _, by omega, by go_num, rfl, by rw [HB.out]; exact HK, E6⟩
          case measure => simp [intOf]; omega
    · obtain rfl : i = l.length := by omega
      rw [List.take_length] at HK
      have HV : Hid (rateV l j y at' = match bestR l j y at' with | some b => b.rt | none => 0) := rfl
      have HO : Hid (rateB l j y at' = (bestR l j y at').isSome) := rfl
      generalize bestR l j y at' = best at *
      rcases HK.out with ⟨rfl, rfl⟩ | ⟨m, bb, rfl, hm, rfl⟩
      · clear HK
        go_wp2
        go_ret2
        exact ⟨by rw [HV.out, HO.out]; rfl, E.low⟩
      · have hml : m < l.length := (List.getElem?_eq_some_iff.1 hm).1
        obtain ⟨b1, o1, rfl, c1, c2, c3, c4⟩ := sx.rate (hs.of_below E.low) (show Hid (l[m]? = some bb) from hm)
        have m3 : (0 : Int) ≤ (m : Int) := by omega
        have m4 : (m : Int) < (l.length : Int) := by omega
        clear HK hm
        go_wp2
        go_ret2
        exact ⟨by rw [HV.out, HO.out]; rfl, E.low⟩
end Go.Proofs.YtnfedcaehkcffaaGreat
end
section
/- The walk of ref09.Year. -/
namespace Go.Proofs.YtnfedcaehkcffaaGreat
open Go.RowKit Go.Sl
set_option maxHeartbeats 1000000
theorem refYear_calls (y : Int) (w : World) : Calls Tryz.prog 131 #[.int .i64 y] w fun e w' => e = .returned (.bool (decide (0 ≤ y ∧ y ≤ 99))) ∧ w = w' := by
  go_enter Tryz.func131, Tryz.ntmps131
  go_wp2
  all_goals
    go_ret
    exact ⟨by simp; omega, rfl⟩
end Go.Proofs.YtnfedcaehkcffaaGreat
end
section
/- The walk of the reference's table: Add. -/
namespace Go.Proofs.YtnfedcaehkcffaaGreat
open Go.RowKit Go.Sl
set_option maxHeartbeats 2000000
set_option maxRecDepth 100000
theorem info_rate09 : Info Tryz.prog 142 (.agg #[.string ⟨#[]⟩, .int .i64 0, .int .i64 0, .int .i64 0]) 4 40 := by unfold Info; kernel_rfl
/-- What the reference's Add returns. -/
def RTAns (b : Nat) (l : List SRate) (j : ByteArray) (y r at' : Int) (h : Hp) (w : World) (e : Ending) (w' : World) : Prop := ∃ h', e = .returned (.int .i64 (tabE l j y r at')) ∧ PtRT h' b (tabAdd l j y r at') ∧ Upd h h' w w'
theorem refTabAdd_calls (b : Nat) (l : List SRate) (j : ByteArray) (y r at' : Int) (h : Hp) (w : World) (hs : h.sub w) (hp : PtRT h b l) (g : GoodT l) :
    Calls Tryz.prog 74 #[.pointer (some ⟨b, 0, none⟩), .string j, .int .i64 y, .int .i64 r, .int .i64 at'] w (RTAns b l j y r at' h w) := by
  have NO : ∀ {q : Int} {W : World}, tabE l j y r at' = q → q ≠ 0 → Below w.heap.size w W → RTAns b l j y r at' h w (.returned (.int .i64 q)) W := fun h1 h2 h3 => ⟨h, by rw [h1], by unfold tabAdd; rw [if_neg (by rw [h1]; exact h2)]; exact hp, Upd.stay hs h3⟩
  have gl := g.len
  obtain ⟨cs, hb, A, ca, rfl, ow⟩ := hp
  have hbw := hs b _ hb
  have hlt := hs.lt (b := b) (by simp [hb])
  have hc : w.cell? ⟨b, 0, none⟩ = some (.slice A l.length ca) := by rw [cell_of_row w b 0 _ _ _ hbw]; rfl
  have hf : w.frozen? ⟨b, 0, none⟩ = false := frozen_of_row w b 0 _ _ hbw
  have sx := ow.sl
  have hd := hs.del b
  have m1 := sx.small
  have YC := fun W : World => refYear_calls y W
  have RC := fun W : World => refRight_calls r W
  have PC := fun W : World => refPer_calls at' W
  have HE : Hid (tabE l j y r at' = if tabArg j y r at' = false then 1 else if l.any (isR j y at') = true then 4 else if 24 ≤ l.length then 5 else 0) := rfl
  cases e0 : j.toList.isEmpty with
  | true =>
    have HE1 : Hid (tabE l j y r at' = 1) := by unfold Hid; rw [HE.out, if_pos (by simp [tabArg, noS, e0])]
    have e0' : j.toList = [] := by simpa using e0
    clear RC PC YC
    go_enter Tryz.func74, Tryz.ntmps74
    go_wp2
    go_ret
    exact NO HE1.out (by decide) (Below.refl _ _)
  | false =>
  by_cases h1 : 0 ≤ y ∧ y ≤ 99
  case neg =>
    have HE1 : Hid (tabE l j y r at' = 1) := by unfold Hid; rw [HE.out, if_pos (by simp [tabArg]; omega)]
    rw [decide_eq_false h1] at YC
    clear RC PC
    go_enter Tryz.func74, Tryz.ntmps74
    go_wp2_with fail
    refine (YC _).mono ?_
    rintro e w' ⟨rfl, rfl⟩
    go_wp2
    go_ret
    exact NO HE1.out (by decide) (Below.refl _ _)
  cases e3 : rightRate r with
  | false =>
    have HE1 : Hid (tabE l j y r at' = 1) := by unfold Hid; rw [HE.out, if_pos (by simp [tabArg, e3])]
    rw [decide_eq_true h1] at YC
    rw [e3] at RC
    clear e3 PC
    go_enter Tryz.func74, Tryz.ntmps74
    go_wp2_with fail
    refine (YC _).mono ?_
    rintro e w' ⟨rfl, rfl⟩
    go_wp2_with fail
    refine (RC _).mono ?_
    rintro e w' ⟨rfl, rfl⟩
    go_wp2
    go_ret
    exact NO HE1.out (by decide) (Below.refl _ _)
  | true =>
  cases e4 : perOk at' with
  | false =>
    have HE1 : Hid (tabE l j y r at' = 1) := by unfold Hid; rw [HE.out, if_pos (by simp [tabArg, e4])]
    rw [decide_eq_true h1] at YC
    rw [e3] at RC
    rw [e4] at PC
    clear e3 e4
    go_enter Tryz.func74, Tryz.ntmps74
    go_wp2_with fail
    refine (YC _).mono ?_
    rintro e w' ⟨rfl, rfl⟩
    go_wp2_with fail
    refine (RC _).mono ?_
    rintro e w' ⟨rfl, rfl⟩
    go_wp2_with fail
    refine (PC _).mono ?_
    rintro e w' ⟨rfl, rfl⟩
    go_wp2
    go_ret
    exact NO HE1.out (by decide) (Below.refl _ _)
  | true =>
  have HE2 : Hid (tabE l j y r at' = if l.any (isR j y at') = true then 4 else if 24 ≤ l.length then 5 else 0) := by unfold Hid; rw [HE.out, if_neg (by simp [tabArg, noS, e0, e3, e4]; omega)]
  rw [decide_eq_true h1] at YC
  rw [e3] at RC
  rw [e4] at PC
  clear e3 e4 HE h1
  go_enter Tryz.func74, Tryz.ntmps74
  go_wp2_with fail
  refine (YC _).mono ?_
  rintro e w' ⟨rfl, rfl⟩
  go_wp2_with fail
  refine (RC _).mono ?_
  rintro e w' ⟨rfl, rfl⟩
  go_wp2_with fail
  refine (PC _).mono ?_
  rintro e w' ⟨rfl, rfl⟩
  go_wp2
  clear YC RC PC
  go_loopw [35] (fun i' wr => ∃ (i : Nat), i ≤ l.length ∧ i' = .int .i64 i ∧ Hid (∀ z ∈ l.take i, isR j y at' z = false) ∧ Below w.heap.size w wr) (fun i _ => l.length - (intOf i).toNat)
  case atStart => exact ⟨0, by omega, rfl, by unfold Hid; simp, Below.refl _ _⟩
  case round =>
    obtain ⟨i, hi, rfl, hno, hb'⟩ := hrel
    by_cases hlt2 : i < l.length
    · obtain ⟨x, hx⟩ := some_of_lt hlt2
      obtain ⟨b1, o1, rfl, c1, c2, c3, c4⟩ := sx.rate (hd.of_below hb') hx
      have i1 : (0 : Int) ≤ (i : Int) := by omega
      have i2 : (i : Int) < (l.length : Int) := by omega
      by_cases h1 : x.j = j
      case neg =>
        have t1 : (x.j.toList == j.toList) = false := beq_eq_false_iff_ne.2 fun e => h1 (tl_inj e)
        have HI : Hid (isR j y at' x = false) := by unfold Hid; simp [isR, h1]
        clear h1
        have HN : Hid (∀ z ∈ l.take (i + 1), isR j y at' z = false) := fun z hz => by
          rw [take_next hx] at hz
          rcases List.mem_append.1 hz with hz | hz
          · exact hno.out z hz
          · simp at hz; subst hz; exact HI.out
        go_wp2
        go_roundw
        case rel => exact ⟨i + 1, by omega, by go_num, HN, hb'.alloc hb'.size _⟩
        case measure => simp [intOf]; omega
      have t1 : (x.j.toList == j.toList) = true := by rw [h1]; simp
      by_cases h2 : x.yr = y
      case neg =>
        have t2 : (x.yr == y) = false := by simpa using h2
        have HI : Hid (isR j y at' x = false) := by unfold Hid; simp [isR, h2]
        clear h1 h2
        have HN : Hid (∀ z ∈ l.take (i + 1), isR j y at' z = false) := fun z hz => by
          rw [take_next hx] at hz
          rcases List.mem_append.1 hz with hz | hz
          · exact hno.out z hz
          · simp at hz; subst hz; exact HI.out
        go_wp2
        go_roundw
        case rel => exact ⟨i + 1, by omega, by go_num, HN, hb'.alloc hb'.size _⟩
        case measure => simp [intOf]; omega
      have t2 : (x.yr == y) = true := by simpa using h2
      by_cases h3 : x.per = at'
      case neg =>
        have t3 : (x.per == at') = false := by simpa using h3
        have HI : Hid (isR j y at' x = false) := by unfold Hid; simp [isR, h3]
        clear h1 h2 h3
        have HN : Hid (∀ z ∈ l.take (i + 1), isR j y at' z = false) := fun z hz => by
          rw [take_next hx] at hz
          rcases List.mem_append.1 hz with hz | hz
          · exact hno.out z hz
          · simp at hz; subst hz; exact HI.out
        go_wp2
        go_roundw
        case rel => exact ⟨i + 1, by omega, by go_num, HN, hb'.alloc hb'.size _⟩
        case measure => simp [intOf]; omega
      have t3 : (x.per == at') = true := by simpa using h3
      have HE4 : Hid (tabE l j y r at' = 4) := by
        unfold Hid; rw [HE2.out, if_pos (List.any_eq_true.2 ⟨x, List.mem_of_getElem? hx.out, by simp [isR, h1, h2, h3]⟩)]
      clear h1 h2 h3 HE2
      go_wp2
      go_ret
      exact NO HE4.out (by decide) (hb'.alloc hb'.size _)
    · obtain rfl : i = l.length := by omega
      rw [List.take_length] at hno
      have HE3 : Hid (tabE l j y r at' = if 24 ≤ l.length then 5 else 0) := by
        unfold Hid; rw [HE2.out, if_neg]
        intro ha
        obtain ⟨z, hz, h⟩ := List.any_eq_true.1 ha
        rw [hno.out z hz] at h; cases h
      clear hno HE2
      have hcr := (hb'.cell (p := ⟨b, 0, none⟩) hlt).trans hc
      have hfr := (hb'.frozen (p := ⟨b, 0, none⟩) hlt).trans hf
      by_cases h5 : 24 ≤ l.length
      · have t5 : decide ((24 : Int) ≤ (l.length : Int)) = true := by simp; omega
        have HE4 : Hid (tabE l j y r at' = 5) := by unfold Hid; rw [HE3.out, if_pos h5]
        clear HE3 h5
        go_wp2
        go_ret
        exact NO HE4.out (by decide) hb'
      · have t5 : decide ((24 : Int) ≤ (l.length : Int)) = false := by simp; omega
        have HE4 : Hid (tabE l j y r at' = 0) := by unfold Hid; rw [HE3.out, if_neg h5]
        have HR : Hid (tabAdd l j y r at' = l ++ [⟨j, y, r, at'⟩]) := by unfold Hid tabAdd; rw [if_pos HE4.out]
        clear HE3 NO
        have hlt2' := World.block_lt_of_cell? _ _ hcr
        have hca2 : ∀ o, (wr.alloc o).cell? ⟨b, 0, none⟩ = some (.slice A l.length ca) := fun o => (cell_alloc hlt2').trans hcr
        have hfa2 : ∀ o, (wr.alloc o).frozen? ⟨b, 0, none⟩ = false := fun o => (frozen_alloc hlt2').trans hfr
        have hne : (h.del b) b = Option.none := Hp.del_self
        go_wp2_with (at_builtin; refine wpList_app1f (h := h.del b) (A := A) (cap := ca) (xs := l) (y := ⟨j, y, r, at'⟩) Tryz.underlying138 info_rate09 (by rfl) (by rfl) rfl l.length 1 (by rfl) (by rfl) rfl ow (hd.of_below (Below.alloc hb' hb'.size _)) (heap_new_at (by simp)) rfl (by omega) (by omega) ?_; intro C' cap' w1 h1 ho1 hu1; have g0 : w1.cell? ⟨b, 0, none⟩ = some (.slice A l.length ca) := hu1.cell (hca2 _) hne; have gf : w1.frozen? ⟨b, 0, none⟩ = false := (hu1.frozen (p := ⟨b, 0, none⟩) (by have := World.block_lt_of_cell? _ _ (hca2 (.cells #[] 0)); simp at this ⊢; omega) hne).trans (hfa2 _))
        obtain ⟨UF, hn3⟩ := Upd.field (v := .slice C' (l.length + 1) cap') 0 hb hs (Hp.le_refl _) (hu1.before (Below.alloc hb' hb'.size _))
        go_ret
        exact ⟨_, by rw [HE4.out]; rfl, ⟨_, Hp.put_self, C', cap', by rw [HR.out]; simp, by rw [Hp.put_del hn3, HR.out]; exact ho1⟩, UF⟩
end Go.Proofs.YtnfedcaehkcffaaGreat
end
section
/- A region that draws its order, walked operation by operation in the order of the text. No program is named here. -/
namespace Go.Sl
open Go Go.RowKit
section
variable {P : Program} {ops : Array Oper} {Q : Exit → Act → World → Prop} {md : Region.Mode} {S : World → Prop}
/-- An operation that is wanted and yields its value in every world that meets S is taken first. -/
theorem take_on {i : Nat} {oi : Oper} {fuel : Nat} {listed : Array Bool} {a : Act} {w : World} (hi : ops[i]? = some oi)
    (hs : Region.noSelect ops = true) (hf : Region.free md ops listed i = true) (hr : (Region.ready md ops listed).contains i = true)
    (hQ : ∀ c (a : Act) w (v : Value), Q (.panic c) (a.put oi.dst v) w → Q (.panic c) a w) (hw : Region.wanted oi (yielded ops a.tmps) = true) (hS : S w)
    (h : ∃ v, (∀ w, S w → (execOp a.eval oi).run P w = .ok (.value v) w) ∧ wpAnyH P md ops Q S fuel (listed.setIfInBounds i true) (a.put oi.dst v) w) : wpAnyH P md ops Q S (fuel + 1) listed a w := by
  obtain ⟨v, h1, h2⟩ := h
  exact wpAnyH_take hi hs hf hr (fun c a w h => hQ c a w _ h) (.inl ⟨hw, h1⟩) hS h2
/-- An operation that is not wanted is taken first. -/
theorem take_off {i : Nat} {oi : Oper} {fuel : Nat} {listed : Array Bool} {a : Act} {w : World} (hi : ops[i]? = some oi)
    (hs : Region.noSelect ops = true) (hf : Region.free md ops listed i = true) (hr : (Region.ready md ops listed).contains i = true)
    (hQ : ∀ c (a : Act) w (v : Value), Q (.panic c) (a.put oi.dst v) w → Q (.panic c) a w) (hw : Region.wanted oi (yielded ops a.tmps) = false) (hS : S w)
    (h : wpAnyH P md ops Q S fuel (listed.setIfInBounds i true) (a.put oi.dst undef) w) : wpAnyH P md ops Q S (fuel + 1) listed a w :=
  wpAnyH_take hi hs hf hr (fun c a w h => hQ c a w _ h) (.inr ⟨hw, rfl⟩) hS h
end
end Go.Sl
end
