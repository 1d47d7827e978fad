/- Walks and plain facts that the laws of this seat share, part 5: contracts of functions, each said at its theorem. -/
import Derived.Test.YthcapomobidnbaaPk4
import Derived.Deep.RegionHeld3
import Derived.Deep.QuietTactic
import Derived.BigQuiet
section
/- The walk of play.Register. -/
namespace Go.Sl
open Go Go.RowKit
theorem tdiv_bd {z k : Int} (hk : 0 < k) (hz : -9223372036854775808 ≤ z ∧ z ≤ 9223372036854775807) : -9223372036854775808 ≤ z.tdiv k ∧ z.tdiv k ≤ 9223372036854775807 := by
  have key : ∀ m : Int, 0 ≤ m → 0 ≤ m.tdiv k ∧ m.tdiv k ≤ m := fun m hm => by
    rw [Int.tdiv_eq_ediv_of_nonneg hm]
    exact ⟨Int.ediv_nonneg hm (by omega), Int.ediv_le_self _ hm⟩
  rcases Int.le_total 0 z with h | h
  · have := key z h; omega
  · have h2 := key (-z) (by omega)
    rw [Int.neg_tdiv] at h2; omega
theorem regOf_step {zs : List Int} {j : Nat} {z : Int} (hz : Hid (zs[j]? = some z)) : (zs.take (j + 1)).foldl regStep [] = regStep ((zs.take j).foldl regStep []) z := by
  rw [take_next hz, List.foldl_append]; rfl
end Go.Sl
namespace Go.Proofs.Ythcapomobidnbaa
open Go.RowKit Go.Sl
set_option maxHeartbeats 2000000
set_option maxRecDepth 100000
theorem playRegister_calls (A : Option Addr) (ca : Nat) (zs : List Int) (h : Hp) (w : World) (hs : h.sub w) (sx : Sl kInt h A ca zs) (hz : ∀ n ∈ zs, I64 n) :
    Calls Try.prog 15 #[.slice A zs.length ca] w fun e w' => ∃ h' b, e = .returned (.pointer (some ⟨b, 0, none⟩)) ∧ Pt kReg 30 h' b (regOf zs) ∧ Upd Hp.none h' w w' := by
  have m1 := sx.small
  have HZ := Lib.hid hz
  clear hz
  go_enter Try.func15, Try.ntmps15
  go_wp2
  go_loopw [4] (fun i wr => ∃ (j : Nat) (h' : Hp), j ≤ zs.length ∧ j ≤ 10 ∧ i = .int .i64 j ∧ Pt kReg 30 h' w.heap.size ((zs.take j).foldl regStep []) ∧ Upd Hp.none h' w wr) (fun i _ => 10 - (intOf i).toNat)
  case atStart => exact ⟨0, _, by omega, by omega, rfl, ⟨_, Hp.one_self _ _, none, 0, rfl, Ow.none _ _⟩, Upd.newBlock w _⟩
  case round =>
    obtain ⟨j, h', hj, hj2, rfl, hp, hu⟩ := hrel
    by_cases hlt : j < zs.length
    · by_cases hlt2 : j < 10
      · obtain ⟨z, hzz⟩ := some_of_lt hlt
        obtain ⟨b1, o1, rfl, c1⟩ := sx.int (hs.of_below hu.below) hzz
        obtain ⟨b1', o1', e', c0⟩ := sx.int hs hzz
        cases e'
        have hb1 : b1 < w.heap.size := World.block_lt_of_cell? w _ c0
        have hn : Hid (h' b1 = none) := hu.new_none hb1
        clear c0
        obtain ⟨z1, z2⟩ := HZ.out z (List.mem_of_getElem? hzz.out)
        have i1 : (0 : Int) ≤ (j : Int) := by omega
        have i2 : (j : Int) < (zs.length : Int) := by omega
        have a1 : -9223372036854775808 ≤ z.tdiv 3 ∧ z.tdiv 3 ≤ 9223372036854775807 := tdiv_bd (by omega) ⟨z1, z2⟩
        have a2 : -9223372036854775808 ≤ z.tdiv 15 ∧ z.tdiv 15 ≤ 9223372036854775807 := tdiv_bd (by omega) ⟨z1, z2⟩
        have w1 := within_lo z (n := 3) (by omega)
        have w2 := within_hi z (n := 3) (by omega)
        have hw1 : IntKind.i64.wrap (1 + within z 3) = 1 + within z 3 := by rw [IntKind.wrap_i64]; omega
        have hq3 : IntKind.i64.wrap (z.tdiv 3) = z.tdiv 3 := by rw [IntKind.wrap_i64]; omega
        have hq15 : IntKind.i64.wrap (z.tdiv 15) = z.tdiv 15 := by rw [IntKind.wrap_i64]; omega
        have HT := Lib.hid (regOf_step hzz)
        have hgood := GoodR.foldl (zs.take j) [] .nil
        generalize (zs.take j).foldl regStep [] = l at *
        have MV := fun (W : World) (hW : Below wr.heap.size wr W) => refMove_calls w.heap.size l (1 + within z 3) (within (z.tdiv 3) 5) (amount (z.tdiv 15)) h' W (hu.sub.of_below hW) hp hgood
        go_wp2
        go_region_held3 (fun w' => w'.cell? ⟨b1, o1 + j, none⟩ = some (.int .i64 z))
          (first | go_keep | (exact hkeep))
          (first
            | (go_at_call 21; ((with_reducible refine (within_calls _ _ _ (by omega) (by omega)).mono ?_)); rintro e w' ⟨rfl, rfl⟩)
            | (go_at_call 30; ((with_reducible refine (amount_calls _ a2 _).mono ?_)); rintro e w' ⟨rfl, rfl⟩)
            | (go_at_call 41; ((with_reducible refine (MV _ (by repeat (first | exact Below.refl _ _ | apply Below.drew | refine Below.alloc ?_ (by simp) _))).mono ?_)); rintro e w5 ⟨h5, rfl, p5, u5⟩; have hkeep : w5.cell? ⟨b1, o1 + j, none⟩ = some (.int .i64 z) := u5.cell (by simpa using c1) hn.out))
        go_wp2
        go_roundw
        case rel => exact ⟨j + 1, h5, by omega, by omega, by go_num, by rw [HT.out]; exact p5, hu.trans (u5.before (by repeat (first | exact Below.refl _ _ | apply Below.drew | refine Below.alloc ?_ (by simp) _)))⟩
        case measure => simp [intOf]; omega
      · have HF : Hid (regOf zs = (zs.take j).foldl regStep []) := by unfold Hid regOf; rw [show j = 10 by omega]
        go_wp2
        go_ret
        exact ⟨h', _, rfl, by rw [HF.out]; exact hp, hu⟩
    · have HF : Hid (regOf zs = (zs.take j).foldl regStep []) := by unfold Hid regOf; rw [List.take_of_length_le (l := zs) (i := 10) (by omega), List.take_of_length_le (l := zs) (i := j) (by omega)]
      go_wp2
      go_ret
      exact ⟨h', _, rfl, by rw [HF.out]; exact hp, hu⟩
end Go.Proofs.Ythcapomobidnbaa
end
section
/- append onto a slice in a body's own memory. No program is named here. -/
namespace Go.Sl
open Go Go.RowKit
section
variable {P : Program} {α : Type} {k : Kd α} {h hx : Hp} {A B : Option Addr} {cap : Nat} {xs ys : List α} {w0 w : World} {l : List Hp}
theorem Env.at_mem (E : Env w0 w l) {h : Hp} (m : h ∈ l) : h.sub w := E.own.mem h m
/-- One flat element. -/
theorem wpList_eapp {ops : Array Oper} {rest : List Oper} {op : Oper} {a : Act} {Q : Exit → Act → World → Prop} {sx xx : Operand} {t e : TypeId} {z : Value} {bytes : Nat} {cs : List Value} {T : TypeId} {fr : Nat × Nat} {b : Nat}
    (i : Nat) (y : α) (ht : P.underlying t = some (.slice e)) (hinfo : Info P e z k.size bytes) (E : Env w0 w l) (hi : l[i]? = some h) (o : Ow k h A cap xs) (n : Nat) (hn : xs.length = n)
    (hzs : z.cells.size = k.size) (hgd : Region.wanted op (yielded ops a.tmps) = true)
    (ho : op.op = .call { callee := .builtin .append, args := #[sx, xx], argTypes := #[t, t] }) (c : Nat) (hsv : a.eval sx = .slice A n cap) (hxv : a.eval xx = .slice (some ⟨b, 0, none⟩) 1 c)
    (hb : w.heap[b]? = some (.cells cs.toArray T fr)) (hK : k.K Hp.none y cs)
    (hm : n + 1 ≤ 1000000000) (hby : bytes ≤ 1000)
    (H : ∀ A' cap' w' h', Ow k h' A' cap' (xs ++ [y]) → Env w0 w' (l.set i h') → wpList P ops Q rest (a.put op.dst (.slice A' (n + 1) cap')) w') : wpList P ops Q (op :: rest) a w :=
  wpList_app1f ht hinfo hzs hgd ho n c hsv hxv hn o (E.sub i hi) hb hK hm hby fun A' cap' w' h' h1 h2 => H A' cap' w' h' h1 (E.upd i hi h2)
/-- A whole slice of flat elements. -/
theorem wpList_eappF {ops : Array Oper} {rest : List Oper} {op : Oper} {a : Act} {Q : Exit → Act → World → Prop} {sx xx : Operand} {t e : TypeId} {z : Value} {bytes cb : Nat}
    (i : Nat) (ht : P.underlying t = some (.slice e)) (hinfo : Info P e z k.size bytes) (E : Env w0 w l) (hi : l[i]? = some h) (o : Ow k h A cap xs) (sy : Sl k hx B cb ys) (sx' : hx.sub w) (n m : Nat) (hn : xs.length = n) (hm' : ys.length = m)
    (f : k.Flat) (hzs : z.cells.size = k.size) (hgd : Region.wanted op (yielded ops a.tmps) = true)
    (ho : op.op = .call { callee := .builtin .append, args := #[sx, xx], argTypes := #[t, t] }) (c : Nat) (hsv : a.eval sx = .slice A n cap) (hxv : a.eval xx = .slice B m c)
    (hm : n + m ≤ 1000000000) (hby : bytes ≤ 1000)
    (H : ∀ A' cap' w' h', Ow k h' A' cap' (xs ++ ys) → Env w0 w' (l.set i h') → wpList P ops Q rest (a.put op.dst (.slice A' (n + m) cap')) w') : wpList P ops Q (op :: rest) a w :=
  wpList_appF ht hinfo hzs hgd ho n m c hsv hxv hn hm' f o (E.sub i hi) sy sx' hm hby fun A' cap' w' h' h1 h2 => H A' cap' w' h' h1 (E.upd i hi h2)
end
end Go.Sl
end
section
/- keep.Same over roll.Row: the same things? -/
namespace Go.Proofs.Ythcapomobidnbaa
open Go.RowKit Go.Sl
set_option maxHeartbeats 1000000
set_option maxRecDepth 100000
theorem same_row (A B : Option Addr) (ca cb : Nat) (xs ys : List SWay) (h k : Hp) (w : World) (hs : h.sub w) (ks : k.sub w) (sx : Sl kWay h A ca xs) (sy : Sl kWay k B cb ys) :
    Calls Try.prog 23 #[.slice A xs.length ca, .slice B ys.length cb] w fun e w' => e = .returned (.bool (eqB xs ys)) ∧ Below w.heap.size w w' := by
  have m1 := sx.small
  have m2 := sy.small
  by_cases hl : xs.length = ys.length
  · have hl1 : ((xs.length : Int) == (ys.length : Int)) = true := by simp [hl]
    have hl2 : ((xs.length : Int) != (ys.length : Int)) = false := by simp [hl]
    have hL := Lib.hid hl
    clear hl
    go_enter Try.func23, Try.ntmps23
    go_wp2
    clear hl1 hl2
    go_loopw [5] (fun i wr => ∃ j : Nat, j ≤ xs.length ∧ i = .int .i64 j ∧ Hid (xs.take j = ys.take j) ∧ Below w.heap.size w wr) (fun i _ => xs.length - (intOf i).toNat)
    case atStart => exact ⟨0, by omega, rfl, rfl, Below.refl _ _⟩
    case round =>
      obtain ⟨j, hj, rfl, he, hb⟩ := hrel
      by_cases hlt : j < xs.length
      · have hlt2 : j < ys.length := by have := hL.out; omega
        obtain ⟨x, hx⟩ := some_of_lt hlt
        obtain ⟨y, hy⟩ := some_of_lt hlt2
        obtain ⟨b1, o1, rfl, c1, c2, c3, c4, c5⟩ := sx.way (hs.of_below hb) hx
        obtain ⟨b2, o2, rfl, d1, d2, d3, d4, d5⟩ := sy.way (ks.of_below hb) hy
        have hn := ne_row x y
        have i1 : (0 : Int) ≤ (j : Int) := by omega
        have i2 : (j : Int) < (xs.length : Int) := by omega
        have i3 : (j : Int) < (ys.length : Int) := by omega
        have hE := take_both hx hy
        by_cases hxy : x = y
        · have hd := neB_f hxy
          have hE2 := hE.2 ⟨he, hxy⟩
          clear hxy hE
          go_wp2
          go_region_held3 (fun w' => w'.cell? ⟨b1, o1 + j * 5, none⟩ = some (.int .i64 x.cls) ∧ w'.cell? ⟨b1, o1 + j * 5 + 1, none⟩ = some (.int .i64 x.yr) ∧ w'.cell? ⟨b1, o1 + j * 5 + 2, none⟩ = some (.int .i64 x.opn) ∧ w'.cell? ⟨b1, o1 + j * 5 + 3, none⟩ = some (.int .i64 x.mov) ∧ w'.cell? ⟨b1, o1 + j * 5 + 4, none⟩ = some (.int .i64 x.clo) ∧ w'.cell? ⟨b2, o2 + j * 5, none⟩ = some (.int .i64 y.cls) ∧ w'.cell? ⟨b2, o2 + j * 5 + 1, none⟩ = some (.int .i64 y.yr) ∧ w'.cell? ⟨b2, o2 + j * 5 + 2, none⟩ = some (.int .i64 y.opn) ∧ w'.cell? ⟨b2, o2 + j * 5 + 3, none⟩ = some (.int .i64 y.mov) ∧ w'.cell? ⟨b2, o2 + j * 5 + 4, none⟩ = some (.int .i64 y.clo)) (go_keep) (fail)
          go_wp2
          go_roundw
          case rel => exact ⟨j + 1, by omega, by go_num, hE2, hb.drew⟩
          case measure => simp [intOf]; omega
        · have hd := neB_t hxy
          have hne : Hid (xs ≠ ys) := fun e => hxy (by have := hx.out; rw [e, hy.out] at this; exact (Option.some.inj this).symm)
          clear hxy hE
          go_wp2
          go_region_held3 (fun w' => w'.cell? ⟨b1, o1 + j * 5, none⟩ = some (.int .i64 x.cls) ∧ w'.cell? ⟨b1, o1 + j * 5 + 1, none⟩ = some (.int .i64 x.yr) ∧ w'.cell? ⟨b1, o1 + j * 5 + 2, none⟩ = some (.int .i64 x.opn) ∧ w'.cell? ⟨b1, o1 + j * 5 + 3, none⟩ = some (.int .i64 x.mov) ∧ w'.cell? ⟨b1, o1 + j * 5 + 4, none⟩ = some (.int .i64 x.clo) ∧ w'.cell? ⟨b2, o2 + j * 5, none⟩ = some (.int .i64 y.cls) ∧ w'.cell? ⟨b2, o2 + j * 5 + 1, none⟩ = some (.int .i64 y.yr) ∧ w'.cell? ⟨b2, o2 + j * 5 + 2, none⟩ = some (.int .i64 y.opn) ∧ w'.cell? ⟨b2, o2 + j * 5 + 3, none⟩ = some (.int .i64 y.mov) ∧ w'.cell? ⟨b2, o2 + j * 5 + 4, none⟩ = some (.int .i64 y.clo)) (go_keep) (fail)
          go_wp2
          go_ret
          exact ⟨by rw [eqB_f hne.out]; rfl, hb.drew⟩
      · have hfin : Hid (xs = ys) := by
          have h1 := he.out
          have hjl : j = xs.length := by omega
          rw [hjl, List.take_length] at h1
          rw [h1, hL.out, List.take_length]; rfl
        go_wp2
        go_ret
        exact ⟨by rw [eqB_t hfin.out]; rfl, hb⟩
  · have hl1 : ((xs.length : Int) == (ys.length : Int)) = false := by simp; omega
    have hl2 : ((xs.length : Int) != (ys.length : Int)) = true := by simp; omega
    have hne : Hid (xs ≠ ys) := fun e => hl (by rw [e])
    clear hl
    go_enter Try.func23, Try.ntmps23
    go_wp2
    go_ret
    exact ⟨by rw [eqB_f hne.out]; rfl, Below.refl _ _⟩
end Go.Proofs.Ythcapomobidnbaa
end
section
/- The calls of chapter 11, in a body's own memory. -/
namespace Go.Proofs.Ythcapomobidnbaa
open Go.RowKit Go.Sl
set_option maxHeartbeats 1000000
set_option maxRecDepth 100000
/-- A register out of numbers: its parts, its slice. -/
theorem Rol.reg {w0 w : World} {l : List Hp} (E : Env w0 w l) {A : Option Addr} {ca : Nat} {zs : List Int} {h : Hp} (sx : Sl kInt h A ca zs) (hs : h.sub w) (hz : ∀ n ∈ zs, I64 n) :
    Calls Try.prog 15 #[.slice A zs.length ca] w fun e w' => ∃ h' b, e = .returned (.pointer (some ⟨b, 0, none⟩)) ∧ Pt kReg 30 h' b (regOf zs) ∧ Env w0 w' (l ++ [h']) :=
  (playRegister_calls A ca zs h w hs sx hz).mono fun _ _ ⟨h', b, he, hp, u⟩ => ⟨h', b, he, hp, E.new u⟩
theorem Rol.moved {w0 w : World} {l : List Hp} (E : Env w0 w l) {A B : Option Addr} {ca cb : Nat} {xs ys : List STri} {h k : Hp} (sx : Sl kTri h A ca xs) (hs : h.sub w) (sy : Sl kTri k B cb ys) (ks : k.sub w) (hx : xs.length ≤ 1000) (hy : ys.length ≤ 1000) (n m : Nat) (hn : xs.length = n) (hm : ys.length = m) {q : Int} (hq : movSum (fwd xs ys) = q) :
    Calls Try.prog 19 #[.slice A n ca, .slice B m cb] w fun e w' => e = .returned (.int .i64 q) ∧ Env w0 w' l := by
  subst hn
  subst hm
  subst hq
  exact (moved_calls A B ca cb xs ys h k w hs ks sx sy hx hy).mono fun _ _ ⟨he, b⟩ => ⟨he, E.below b⟩
theorem Rol.classes {w0 w : World} {l : List Hp} (E : Env w0 w l) {A : Option Addr} {ca : Nat} {xs : List SWay} {h : Hp} (sx : Sl kWay h A ca xs) (hs : h.sub w) (hx : xs.length ≤ 1000) (n : Nat) (hn : xs.length = n) {q : List SWay} (hq : classes xs = q) :
    Calls Try.prog 22 #[.slice A n ca] w fun e w' => ∃ C cap h', e = .returned (.slice C q.length cap) ∧ Ow kWay h' C cap q ∧ Env w0 w' (l ++ [h']) := by
  subst hn
  subst hq
  exact (classes_calls A ca xs h w hs sx hx).mono fun _ _ ⟨C, cap, h', he, ho, u⟩ => ⟨C, cap, h', he, ho, E.new u⟩
theorem Rol.total {w0 w : World} {l : List Hp} (E : Env w0 w l) {b : Nat} {xs : List STri} {h : Hp} (p : Pt kReg 30 h b xs) (hs : h.sub w) (g : GoodR xs) {q : Int} (hq : sumC xs = q) :
    Calls Try.prog 25 #[.pointer (some ⟨b, 0, none⟩)] w fun e w' => e = .returned (.int .i64 q) ∧ Env w0 w' l := by
  subst hq
  obtain ⟨A, ca, hc, sx⟩ := p.reg hs
  exact (refTotal_calls b A ca xs h w hs hc sx (by have := g.len; omega) (mem_len g.mon)).mono fun _ _ ⟨he, b⟩ => ⟨he, E.below b⟩
theorem Rol.get {w0 w : World} {l : List Hp} (E : Env w0 w l) {b : Nat} {xs : List STri} {h : Hp} (p : Pt kReg 30 h b xs) (hs : h.sub w) (c y : Int) {q : Int} (hq : getB xs c y = q) :
    Calls Try.prog 18 #[.pointer (some ⟨b, 0, none⟩), .int .i64 c, .int .i64 y] w fun e w' => e = .returned (.int .i64 q) ∧ Env w0 w' l := by
  subst hq
  obtain ⟨A, ca, hc, sx⟩ := p.reg hs
  exact (refGet_calls b A ca xs c y h w hs hc sx).mono fun _ _ ⟨he, b⟩ => ⟨he, E.below b⟩
theorem Rol.same {w0 w : World} {l : List Hp} (E : Env w0 w l) {A B : Option Addr} {ca cb : Nat} {xs ys : List SWay} {k k2 : Hp} (ks : k.sub w) (ks2 : k2.sub w) (sx : Sl kWay k A ca xs) (sy : Sl kWay k2 B cb ys) (n m : Nat) (hn : xs.length = n) (hm : ys.length = m) (he : xs = ys) :
    Calls Try.prog 23 #[.slice A n ca, .slice B m cb] w fun e w' => e = .returned (.bool true) ∧ Env w0 w' l := by
  subst hn
  subst hm
  exact (same_row A B ca cb xs ys k k2 w ks ks2 sx sy).mono fun _ _ ⟨e1, b⟩ => ⟨by rw [e1, eqB_t he], E.below b⟩
theorem Rol.classesN {w0 w : World} {l : List Hp} (E : Env w0 w l) {A : Option Addr} {ca : Nat} {xs : List SWay} {h : Hp} (sx : Sl kWay h A ca xs) (hs : h.sub w) (hx : xs.length ≤ 1000) (n : Nat) (hn : xs.length = n) {q : List SWay} (hq : Go.Sl.classes xs = q) (m : Nat) (hm : q.length = m) :
    Calls Try.prog 22 #[.slice A n ca] w fun e w' => ∃ C cap h', e = .returned (.slice C m cap) ∧ Ow kWay h' C cap q ∧ Env w0 w' (l ++ [h']) := by
  subst hm
  exact Rol.classes E sx hs hx n hn hq
end Go.Proofs.Ythcapomobidnbaa
end
section
/- Small structs of a body's own, each in a block of its own. No program is named here. -/
namespace Go.Sl
open Go Go.RowKit
section
variable {h : Hp} {w0 w : World} {l : List Hp} {b : Nat} {cs : List Value} {T : TypeId}
abbrev Hp.box (b : Nat) (cs : List Value) (T : TypeId) : Hp := Hp.one b (.cells cs.toArray T (0, 0))
theorem Hp.none_put (b : Nat) (o : Obj) : Hp.none.put b o = Hp.one b o := by funext q; simp [Hp.put, Hp.one, Hp.none]
theorem Upd.oneSet (s : (Hp.box b cs T).sub w) (j : Nat) (v : Value) : Upd (Hp.box b cs T) (Hp.box b (cs.set j v) T) w (w.setCell ⟨b, j, .none⟩ v) := by
  have h := (Upd.field (h := Hp.box b cs T) (hr := Hp.none) (r' := Hp.none) (w1 := w) (v := v) j (Hp.one_self b _) s (Hp.none_le _) (Upd.of_below (Below.refl _ _))).1
  rw [Hp.none_put] at h; exact h
theorem Env.weak {k : Hp} (E : Env w0 w l) (i : Nat) (hi : l[i]? = some h) (hk : k.le h) : Env w0 w (l.set i k) := E.upd i hi ⟨rfl, rfl, rfl, Nat.le_refl _, fun _ _ _ => rfl, (E.sub i hi).le hk, fun q hq => .inl fun hn => by
  cases hh : k q with
  | none => exact hq hh
  | some o => rw [hk q o hh] at hn; cases hn⟩
/-- A field is stored. -/
theorem Env.cellset (E : Env w0 w l) (i : Nat) (hi : l[i]? = some (Hp.box b cs T)) (j : Nat) (v : Value) : Env w0 (w.setCell ⟨b, j, .none⟩ v) (l.set i (Hp.box b (cs.set j v) T)) := E.upd i hi (Upd.oneSet (E.sub i hi) j v)
theorem Env.cell (E : Env w0 w l) (i : Nat) (hi : l[i]? = some (Hp.box b cs T)) (j : Nat) {v : Value} (hv : cs[j]? = some v) : w.cell? ⟨b, j, .none⟩ = some v := by
  rw [cell_of_row w b j _ _ _ (E.sub i hi b _ (Hp.one_self b _))]; simpa using hv
theorem Env.free (E : Env w0 w l) (i : Nat) (hi : l[i]? = some (Hp.box b cs T)) (n : Nat) : w.frozen? ⟨b, n, .none⟩ = false := frozen_of_row w b n _ T (E.sub i hi b _ (Hp.one_self b _))
end
theorem Below.drN {B : Nat} {a w : World} (h : Below B a w) (n : Nat) : Below B a (w.drewN n) := h.trans ⟨rfl, rfl, rfl, Nat.le_refl _, fun _ _ => rfl⟩
/-- A call that turns nothing, in a quiet region: the first one of a walk, or a later one. -/
theorem quiet_one {P : Program} {f : FuncId} {args : Array Value} {W : World} {n : Nat} {v : Value} (h : Calls P f args (W.drewN n) fun e w' => e = .returned v ∧ W.drewN n = w') :
    Calls P f args (W.drewN n) fun e w' => e = .returned v ∧ ∃ m, w' = W.drewN m := h.mono fun _ _ ⟨a, b⟩ => ⟨a, n, b.symm⟩
theorem quiet_more {P : Program} {f : FuncId} {args : Array Value} {W : World} {k n : Nat} {v : Value} (h : Calls P f args (W.drewN (k + n)) fun e w' => e = .returned v ∧ W.drewN (k + n) = w') :
    Calls P f args (W.drewN (k + n)) fun e w' => e = .returned v ∧ ∃ m, w' = W.drewN (k + m) := h.mono fun _ _ ⟨a, b⟩ => ⟨a, n, b.symm⟩
end Go.Sl
end
section
/- The walks of rate.Right, remeasure.Temp, remeasure.Total. -/
namespace Go.Proofs.Ythcapomobidnbaa
open Go.RowKit Go.Sl
set_option maxHeartbeats 2000000
set_option maxRecDepth 100000
theorem rateRight_calls (r : Int) (w : World) : Calls Try.prog 44 #[.int .i64 r] w fun e w' => e = .returned (.bool (rightRate r)) ∧ w = w' := by
  go_enter Try.func44, Try.ntmps44
  go_wp2
  all_goals
    go_ret
    exact ⟨by simp [rightRate]; omega, rfl⟩
theorem remTotal_calls (m r : Int) (w : World) : Calls Try.prog 28 #[.agg #[.int .i64 m, .int .i64 r]] w fun e w' => e = .returned (.int .i64 (wrap64 (m + r))) ∧ Below w.heap.size w w' := by
  go_enter Try.func28, Try.ntmps28
  go_wp2
  go_ret
  exact ⟨rfl, (by repeat (first | exact Below.refl _ _ | apply Below.drew | refine Below.alloc ?_ (by simp) _))⟩
theorem remTemp_calls (A B D F : Option Addr) (ca cb cd cf : Nat) (xs ys : List STri) (os ns : List Int) (h k p q : Hp) (w : World) (hs : h.sub w) (ks : k.sub w) (ps : p.sub w) (qs : q.sub w)
    (sx : Sl kTri h A ca xs) (sy : Sl kTri k B cb ys) (so : Sl kInt p D cd os) (sn : Sl kInt q F cf ns) (hx : xs.length ≤ 500) (hy : ys.length ≤ 500) :
    Calls Try.prog 26 #[.slice A xs.length ca, .slice B ys.length cb, .slice D os.length cd, .slice F ns.length cf] w fun e w' =>
      e = .returned (.tuple #[.agg #[.int .i64 (remMo (fwd xs ys) os ns), .int .i64 (remRa (fwd xs ys) os ns)], .int .i64 (remE (fwd xs ys) os ns)]) ∧ Below w.heap.size w w' := by
  have m3 := so.small
  have m4 := sn.small
  have hl := fwd_len xs ys
  have FC := fun (W : World) (l : List Hp) (E : Env w W l) => Rol.forward E sx (hs.of_below E.low) sy (ks.of_below E.low) (by omega) (by omega) _ _ rfl rfl rfl
  generalize fwd xs ys = rows at *
  have hl2 : rows.length ≤ 1000 := by omega
  have E1 := (Env.start w).alloc (.cells #[.int .i64 0, .int .i64 0] 52)
  simp at E1
  go_enter Try.func26, Try.ntmps26
  go_wp2_with fail
  refine (FC _ _ E1).mono ?_
  rintro e w1 ⟨C, n1, h1, rfl, o1, E2⟩
  simp at E2
  clear FC
  have z0 := E2.cell 0 rfl 0 rfl
  have z1 := E2.cell 0 rfl 1 rfl
  have zf := E2.free 0 rfl
  by_cases hlen : os.length = rows.length ∧ ns.length = rows.length
  · obtain ⟨l1, l2⟩ := hlen
    have L1 := Lib.hid l1
    have L2 := Lib.hid l2
    have t1 : ((os.length : Int) != (rows.length : Int)) = false := by simp [l1]
    have t2 : ((ns.length : Int) != (rows.length : Int)) = false := by simp [l2]
    have HE : Hid (remE rows os ns = if remAll rows os ns = false then 1 else if (money (sumM rows ns) && money (sumR rows os ns)) = false then 6 else 0) := by
      unfold Hid remE; rw [if_neg (by omega)]
    clear l1 l2
    have E3 := E2.alloc (.cells #[.int .i64 0, .int .i64 0] 52)
    simp at E3
    go_wp2
    go_loopw [39] (fun i wr => ∃ (j : Nat) (M R : Int), j ≤ rows.length ∧ i = .int .i64 j ∧ Hid (remAll (rows.take j) (os.take j) (ns.take j) = true) ∧ Hid (M = sumM (rows.take j) (ns.take j)) ∧ Hid (R = sumR (rows.take j) (os.take j) (ns.take j)) ∧ Env w wr [Hp.box w.heap.size [.int .i64 0, .int .i64 0] 52, h1, Hp.box w1.heap.size [.int .i64 M, .int .i64 R] 52]) (fun i _ => rows.length - (intOf i).toNat)
    case atStart => exact ⟨0, 0, 0, by omega, rfl, rfl, rfl, rfl, E3⟩
    case round =>
      clear E1 E2 E3 z0 z1 zf
      obtain ⟨j, M, R, hj, rfl, ha, hM, hR, E⟩ := hrel
      have z0 := E.cell 0 rfl 0 rfl
      have z1 := E.cell 0 rfl 1 rfl
      have zf := E.free 0 rfl
      have y0 := E.cell 2 rfl 0 rfl
      have y1 := E.cell 2 rfl 1 rfl
      have yf := E.free 2 rfl
      by_cases hlt : j < rows.length
      · obtain ⟨x, hxx⟩ := some_of_lt hlt
        obtain ⟨o, hoo⟩ := some_of_lt (show j < os.length by rw [L1.out]; exact hlt)
        obtain ⟨n, hnn⟩ := some_of_lt (show j < ns.length by rw [L2.out]; exact hlt)
        obtain ⟨b1, o1', rfl, c1, c2, c3, c4, c5⟩ := o1.sl.way (E.sub 1 rfl) hxx
        obtain ⟨b2, o2', rfl, d1⟩ := so.int (ps.of_below E.low) hoo
        obtain ⟨b3, o3', rfl, d2⟩ := sn.int (qs.of_below E.low) hnn
        have d1a := fun o => (cell_alloc (o := o) (World.block_lt_of_cell? _ _ d1)).trans d1
        have d2a := fun o => (cell_alloc (o := o) (World.block_lt_of_cell? _ _ d2)).trans d2
        have z0a := fun o => (cell_alloc (o := o) (World.block_lt_of_cell? _ _ z0)).trans z0
        have z1a := fun o => (cell_alloc (o := o) (World.block_lt_of_cell? _ _ z1)).trans z1
        have y0a := fun o => (cell_alloc (o := o) (World.block_lt_of_cell? _ _ y0)).trans y0
        have y1a := fun o => (cell_alloc (o := o) (World.block_lt_of_cell? _ _ y1)).trans y1
        have zfa := fun o n => (frozen_alloc (o := o) (n := n) (World.block_lt_of_cell? _ _ z0)).trans (zf n)
        have yfa := fun o n => (frozen_alloc (o := o) (n := n) (World.block_lt_of_cell? _ _ y0)).trans (yf n)
        have i1 : (0 : Int) ≤ (j : Int) := by omega
        have i2 : (j : Int) < (rows.length : Int) := by omega
        have i3 : (j : Int) < (os.length : Int) := by rw [L1.out]; omega
        have i4 : (j : Int) < (ns.length : Int) := by rw [L2.out]; omega
        have hb1 := sumM_bd (rows.take j) (ns.take j)
        have hb2 := sumR_bd (rows.take j) (os.take j) (ns.take j)
        rw [← hM.out, List.length_take] at hb1
        rw [← hR.out, List.length_take] at hb2
        have HB : (-8000000000002000 ≤ M ∧ M ≤ 8000000000002000) ∧ (-8000000000002000 ≤ R ∧ R ≤ 8000000000002000) := by omega
        clear hb1 hb2
        obtain ⟨⟨q1, q2⟩, q3, q4⟩ := HB
        obtain ⟨q5, q6⟩ := ofVal_bd x.opn o
        obtain ⟨q7, q8⟩ := ofVal_bd x.opn n
        obtain ⟨q9, q10⟩ := ofVal_bd x.clo n
        have hll1 : (rows.take j).length = (os.take j).length := by rw [List.length_take, List.length_take, L1.out]
        have hll2 : (rows.take j).length = (ns.take j).length := by rw [List.length_take, List.length_take, L2.out]
        have HTa : Hid (remAll (rows.take (j + 1)) (os.take (j + 1)) (ns.take (j + 1)) = remOk x o n) := by
          unfold Hid; rw [take_next hxx, take_next hoo, take_next hnn, remAll_snoc hll1 hll2, ha.out]; rfl
        have HTm : Hid (sumM (rows.take (j + 1)) (ns.take (j + 1)) = M + (ofVal x.clo n - ofVal x.opn n)) := by
          unfold Hid; rw [take_next hxx, take_next hnn, sumM_snoc hll2, hM.out]; rfl
        have HTr : Hid (sumR (rows.take (j + 1)) (os.take (j + 1)) (ns.take (j + 1)) = R + (ofVal x.opn n - ofVal x.opn o)) := by
          unfold Hid; rw [take_next hxx, take_next hoo, take_next hnn, sumR_snoc hll1 hll2, hR.out]; rfl
        clear hll1 hll2
        have HNo : remOk x o n = false → Hid (remE rows os ns = 1) := fun h => by
          unfold Hid; rw [HE.out, if_pos (remAll_no hxx.out hoo.out hnn.out h)]
        have HO1 := fun W => of_calls x.opn o W
        have HO2 := fun W => of_calls x.opn n W
        have HO3 := fun W => of_calls x.clo n W
        have RO := fun W => rateRight_calls o W
        have RN := fun W => rateRight_calls n W
        have M1 := fun W => money_calls x.opn W
        have M2 := fun W => money_calls x.clo W
        have HOK : remOk x o n = (rightRate o && (rightRate n && (money x.opn && money x.clo))) := rfl
        generalize ofVal x.opn o = v1 at *
        generalize ofVal x.opn n = v2 at *
        generalize ofVal x.clo n = v3 at *
        generalize remOk x o n = ok at *
        cases e0 : rightRate o with
        | false =>
          have hf : ok = false := by rw [HOK, e0]; rfl
          have HE1 := HNo hf
          have HEm : Hid (remMo rows os ns = 0) := by unfold Hid remMo; rw [HE1.out]; rfl
          have HEr : Hid (remRa rows os ns = 0) := by unfold Hid remRa; rw [HE1.out]; rfl
          rw [e0] at RO
          clear HNo HOK HTa hf HO1 HO2 HO3 e0
          go_wp2_with (first
            | (go_at_call 44; ((with_reducible refine (RO _).mono ?_)); rintro e w' ⟨rfl, rfl⟩)
            | (go_at_call 44; ((with_reducible refine (RN _).mono ?_)); rintro e w' ⟨rfl, rfl⟩)
            | (go_at_call 45; ((with_reducible refine (M1 _).mono ?_)); rintro e w' ⟨rfl, rfl⟩)
            | (go_at_call 45; ((with_reducible refine (M2 _).mono ?_)); rintro e w' ⟨rfl, rfl⟩))
          exact bodyPost_ret (v := .tuple #[.agg #[.int .i64 0, .int .i64 0], .int .i64 1]) (by simp [results, Try.results26, go_sem, z0a, z1a]) rfl ⟨by rw [HE1.out, HEm.out, HEr.out], ((Env.cellset (by repeat (first | (with_reducible exact E) | (with_reducible apply Env.drew) | (with_reducible apply Env.drewN) | (with_reducible apply Env.alloc'))) 0 rfl 0 _).cellset 0 rfl 1 _).low⟩
        | true =>
        rw [e0] at RO
        cases e1 : rightRate n with
        | false =>
          have hf : ok = false := by rw [HOK, e0, e1]; rfl
          have HE1 := HNo hf
          have HEm : Hid (remMo rows os ns = 0) := by unfold Hid remMo; rw [HE1.out]; rfl
          have HEr : Hid (remRa rows os ns = 0) := by unfold Hid remRa; rw [HE1.out]; rfl
          rw [e1] at RN
          clear HNo HOK HTa hf HO1 HO2 HO3 e0 e1
          go_wp2_with (first
            | (go_at_call 44; ((with_reducible refine (RO _).mono ?_)); rintro e w' ⟨rfl, rfl⟩)
            | (go_at_call 44; ((with_reducible refine (RN _).mono ?_)); rintro e w' ⟨rfl, rfl⟩)
            | (go_at_call 45; ((with_reducible refine (M1 _).mono ?_)); rintro e w' ⟨rfl, rfl⟩)
            | (go_at_call 45; ((with_reducible refine (M2 _).mono ?_)); rintro e w' ⟨rfl, rfl⟩))
          exact bodyPost_ret (v := .tuple #[.agg #[.int .i64 0, .int .i64 0], .int .i64 1]) (by simp [results, Try.results26, go_sem, z0a, z1a]) rfl ⟨by rw [HE1.out, HEm.out, HEr.out], ((Env.cellset (by repeat (first | (with_reducible exact E) | (with_reducible apply Env.drew) | (with_reducible apply Env.drewN) | (with_reducible apply Env.alloc'))) 0 rfl 0 _).cellset 0 rfl 1 _).low⟩
        | true =>
        rw [e1] at RN
        cases e2 : money x.opn with
        | false =>
          have hf : ok = false := by rw [HOK, e0, e1, e2]; rfl
          have HE1 := HNo hf
          have HEm : Hid (remMo rows os ns = 0) := by unfold Hid remMo; rw [HE1.out]; rfl
          have HEr : Hid (remRa rows os ns = 0) := by unfold Hid remRa; rw [HE1.out]; rfl
          rw [e2] at M1
          clear HNo HOK HTa hf HO1 HO2 HO3 e0 e1 e2
          go_wp2_with (first
            | (go_at_call 44; ((with_reducible refine (RO _).mono ?_)); rintro e w' ⟨rfl, rfl⟩)
            | (go_at_call 44; ((with_reducible refine (RN _).mono ?_)); rintro e w' ⟨rfl, rfl⟩)
            | (go_at_call 45; ((with_reducible refine (M1 _).mono ?_)); rintro e w' ⟨rfl, rfl⟩)
            | (go_at_call 45; ((with_reducible refine (M2 _).mono ?_)); rintro e w' ⟨rfl, rfl⟩))
          exact bodyPost_ret (v := .tuple #[.agg #[.int .i64 0, .int .i64 0], .int .i64 1]) (by simp [results, Try.results26, go_sem, z0a, z1a]) rfl ⟨by rw [HE1.out, HEm.out, HEr.out], ((Env.cellset (by repeat (first | (with_reducible exact E) | (with_reducible apply Env.drew) | (with_reducible apply Env.drewN) | (with_reducible apply Env.alloc'))) 0 rfl 0 _).cellset 0 rfl 1 _).low⟩
        | true =>
        rw [e2] at M1
        cases e3 : money x.clo with
        | false =>
          have hf : ok = false := by rw [HOK, e0, e1, e2, e3]; rfl
          have HE1 := HNo hf
          have HEm : Hid (remMo rows os ns = 0) := by unfold Hid remMo; rw [HE1.out]; rfl
          have HEr : Hid (remRa rows os ns = 0) := by unfold Hid remRa; rw [HE1.out]; rfl
          rw [e3] at M2
          clear HNo HOK HTa hf HO1 HO2 HO3 e0 e1 e2 e3
          go_wp2_with (first
            | (go_at_call 44; ((with_reducible refine (RO _).mono ?_)); rintro e w' ⟨rfl, rfl⟩)
            | (go_at_call 44; ((with_reducible refine (RN _).mono ?_)); rintro e w' ⟨rfl, rfl⟩)
            | (go_at_call 45; ((with_reducible refine (M1 _).mono ?_)); rintro e w' ⟨rfl, rfl⟩)
            | (go_at_call 45; ((with_reducible refine (M2 _).mono ?_)); rintro e w' ⟨rfl, rfl⟩))
          exact bodyPost_ret (v := .tuple #[.agg #[.int .i64 0, .int .i64 0], .int .i64 1]) (by simp [results, Try.results26, go_sem, z0a, z1a]) rfl ⟨by rw [HE1.out, HEm.out, HEr.out], ((Env.cellset (by repeat (first | (with_reducible exact E) | (with_reducible apply Env.drew) | (with_reducible apply Env.drewN) | (with_reducible apply Env.alloc'))) 0 rfl 0 _).cellset 0 rfl 1 _).low⟩
        | true =>
        rw [e3] at M2
        have hf : ok = true := by rw [HOK, e0, e1, e2, e3]; rfl
        rw [hf] at HTa
        clear HNo HOK e0 e1 e2 e3 hf
        go_wp2_with (first
          | (go_at_call 44; ((with_reducible refine (RO _).mono ?_)); rintro e w' ⟨rfl, rfl⟩)
          | (go_at_call 44; ((with_reducible refine (RN _).mono ?_)); rintro e w' ⟨rfl, rfl⟩)
          | (go_at_call 45; ((with_reducible refine (M1 _).mono ?_)); rintro e w' ⟨rfl, rfl⟩)
          | (go_at_call 45; ((with_reducible refine (M2 _).mono ?_)); rintro e w' ⟨rfl, rfl⟩))
        clear d1a d2a z0a z1a y0a y1a zfa yfa
        have RS : ∀ V, Env w V [Hp.box w.heap.size [.int .i64 0, .int .i64 0] 52, h1, Hp.box w1.heap.size [.int .i64 M, .int .i64 R] 52] → Env w ((V.setCell ⟨w1.heap.size, 0, none⟩ (.int .i64 (M + v3 - v2))).setCell ⟨w1.heap.size, 1, none⟩ (.int .i64 (R + v2 - v1))) [Hp.box w.heap.size [.int .i64 0, .int .i64 0] 52, h1, Hp.box w1.heap.size [.int .i64 (M + v3 - v2), .int .i64 (R + v2 - v1)] 52] := fun V EV => (EV.cellset 2 rfl 0 _).cellset 2 rfl 1 _
        obtain ⟨W, hW⟩ : ∃ W : World, W = wr.alloc (.cells #[.int .i64 x.cls, .int .i64 x.yr, .int .i64 x.opn, .int .i64 x.mov, .int .i64 x.clo] 36) := ⟨_, rfl⟩
        have q0 : W.cell? ⟨wr.heap.size, 0, none⟩ = some (.int .i64 x.cls) := by rw [hW]; exact cell_new rfl
        have q1 : W.cell? ⟨wr.heap.size, 1, none⟩ = some (.int .i64 x.yr) := by rw [hW]; exact cell_new rfl
        have q2 : W.cell? ⟨wr.heap.size, 2, none⟩ = some (.int .i64 x.opn) := by rw [hW]; exact cell_new rfl
        have q3 : W.cell? ⟨wr.heap.size, 3, none⟩ = some (.int .i64 x.mov) := by rw [hW]; exact cell_new rfl
        have q4 : W.cell? ⟨wr.heap.size, 4, none⟩ = some (.int .i64 x.clo) := by rw [hW]; exact cell_new rfl
        have BW : Below wr.heap.size wr W := by rw [hW]; exact (Below.refl _ _).alloc (Nat.le_refl _) _
        rw [← hW]
        clear hW
        clear c1 c2 c3 c4 c5 z0 z1 zf
        have hb1 : w1.heap.size < wr.heap.size := World.block_lt_of_cell? _ _ y0
        have yfW := fun n => (BW.frozen (p := ⟨w1.heap.size, n, none⟩) hb1).trans (yf n)
        replace d1 := (BW.cell (World.block_lt_of_cell? _ _ d1)).trans d1
        replace d2 := (BW.cell (World.block_lt_of_cell? _ _ d2)).trans d2
        replace y0 := (BW.cell (World.block_lt_of_cell? _ _ y0)).trans y0
        replace y1 := (BW.cell (World.block_lt_of_cell? _ _ y1)).trans y1
        have EW := E.below BW
        clear yf
        go_quiet ((go_at_call 46; (first | exact quiet_one (HO1 _) | exact quiet_more (HO1 _))))
        go_wp2
        go_quiet ((go_at_call 46; (first | exact quiet_one (HO2 _) | exact quiet_more (HO2 _))))
        go_wp2
        go_quiet ((go_at_call 46; (first | exact quiet_one (HO3 _) | exact quiet_more (HO3 _))))
        go_wp2
        go_roundw
        case rel => exact ⟨j + 1, M + v3 - v2, R + v2 - v1, by omega, by go_num, HTa, by unfold Hid; rw [HTm.out]; omega, by unfold Hid; rw [HTr.out]; omega, RS _ (by repeat (first | (with_reducible exact EW) | (with_reducible apply Env.drew) | (with_reducible apply Env.drewN) | (with_reducible apply Env.alloc')))⟩
        case measure => simp [intOf]; omega
      · obtain rfl : j = rows.length := by omega
        rw [List.take_length, List.take_of_length_le (Nat.le_of_eq L1.out), List.take_of_length_le (Nat.le_of_eq L2.out)] at ha
        rw [List.take_length, List.take_of_length_le (Nat.le_of_eq L2.out)] at hM
        rw [List.take_length, List.take_of_length_le (Nat.le_of_eq L1.out), List.take_of_length_le (Nat.le_of_eq L2.out)] at hR
        have M1 := fun W => money_calls M W
        have M2 := fun W => money_calls R W
        have HE2 : Hid (remE rows os ns = if (money M && money R) = false then 6 else 0) := by unfold Hid; rw [HE.out, ha.out, ← hM.out, ← hR.out]; rfl
        cases e0 : money M with
        | false =>
          have HE1 : Hid (remE rows os ns = 6) := by unfold Hid; rw [HE2.out, e0]; rfl
          have HEm : Hid (remMo rows os ns = 0) := by unfold Hid remMo; rw [HE1.out]; rfl
          have HEr : Hid (remRa rows os ns = 0) := by unfold Hid remRa; rw [HE1.out]; rfl
          rw [e0] at M1
          clear e0 HE2
          go_wp2_with (go_at_call 45; refine (M1 _).mono ?_; rintro e w' ⟨rfl, rfl⟩)
          exact bodyPost_ret (v := .tuple #[.agg #[.int .i64 0, .int .i64 0], .int .i64 6]) (by simp [results, Try.results26, go_sem, z0, z1]) rfl ⟨by rw [HE1.out, HEm.out, HEr.out], ((Env.cellset (by repeat (first | (with_reducible exact E) | (with_reducible apply Env.drew) | (with_reducible apply Env.drewN) | (with_reducible apply Env.alloc'))) 0 rfl 0 _).cellset 0 rfl 1 _).low⟩
        | true =>
        cases e1 : money R with
        | false =>
          have HE1 : Hid (remE rows os ns = 6) := by unfold Hid; rw [HE2.out, e0, e1]; rfl
          have HEm : Hid (remMo rows os ns = 0) := by unfold Hid remMo; rw [HE1.out]; rfl
          have HEr : Hid (remRa rows os ns = 0) := by unfold Hid remRa; rw [HE1.out]; rfl
          rw [e0] at M1
          rw [e1] at M2
          clear e0 e1 HE2
          go_wp2_with (first
            | (go_at_call 45; ((with_reducible refine (M1 _).mono ?_)); rintro e w' ⟨rfl, rfl⟩)
            | (go_at_call 45; ((with_reducible refine (M2 _).mono ?_)); rintro e w' ⟨rfl, rfl⟩))
          exact bodyPost_ret (v := .tuple #[.agg #[.int .i64 0, .int .i64 0], .int .i64 6]) (by simp [results, Try.results26, go_sem, z0, z1]) rfl ⟨by rw [HE1.out, HEm.out, HEr.out], ((Env.cellset (by repeat (first | (with_reducible exact E) | (with_reducible apply Env.drew) | (with_reducible apply Env.drewN) | (with_reducible apply Env.alloc'))) 0 rfl 0 _).cellset 0 rfl 1 _).low⟩
        | true =>
          have HE1 : Hid (remE rows os ns = 0) := by unfold Hid; rw [HE2.out, e0, e1]; rfl
          have HEm : Hid (remMo rows os ns = M) := by unfold Hid remMo; rw [HE1.out, if_pos rfl, ← hM.out]
          have HEr : Hid (remRa rows os ns = R) := by unfold Hid remRa; rw [HE1.out, if_pos rfl, ← hR.out]
          rw [e0] at M1
          rw [e1] at M2
          clear e0 e1 HE2
          go_wp2_with (first
            | (go_at_call 45; ((with_reducible refine (M1 _).mono ?_)); rintro e w' ⟨rfl, rfl⟩)
            | (go_at_call 45; ((with_reducible refine (M2 _).mono ?_)); rintro e w' ⟨rfl, rfl⟩))
          exact bodyPost_ret (v := .tuple #[.agg #[.int .i64 M, .int .i64 R], .int .i64 0]) (by simp [results, Try.results26, go_sem, z0, z1]) rfl ⟨by rw [HE1.out, HEm.out, HEr.out], ((Env.cellset (by repeat (first | (with_reducible exact E) | (with_reducible apply Env.drew) | (with_reducible apply Env.drewN) | (with_reducible apply Env.alloc'))) 0 rfl 0 _).cellset 0 rfl 1 _).low⟩
  · have HE : Hid (remE rows os ns = 1) := by unfold Hid remE; rw [if_pos (by omega)]
    have HM : Hid (remMo rows os ns = 0) := by unfold Hid remMo; rw [HE.out]; rfl
    have HR : Hid (remRa rows os ns = 0) := by unfold Hid remRa; rw [HE.out]; rfl
    by_cases l1 : os.length = rows.length
    · have t1 : ((os.length : Int) != (rows.length : Int)) = false := by simp [l1]
      have t2 : ((ns.length : Int) != (rows.length : Int)) = true := by simp; omega
      clear hlen l1
      go_wp2
      exact bodyPost_ret (v := .tuple #[.agg #[.int .i64 0, .int .i64 0], .int .i64 1]) (by simp [results, Try.results26, go_sem, z0, z1]) rfl ⟨by rw [HE.out, HM.out, HR.out], ((E2.cellset 0 rfl 0 _).cellset 0 rfl 1 _).low⟩
    · have t1 : ((os.length : Int) != (rows.length : Int)) = true := by simp; omega
      clear hlen l1
      go_wp2
      exact bodyPost_ret (v := .tuple #[.agg #[.int .i64 0, .int .i64 0], .int .i64 1]) (by simp [results, Try.results26, go_sem, z0, z1]) rfl ⟨by rw [HE.out, HM.out, HR.out], ((E2.cellset 0 rfl 0 _).cellset 0 rfl 1 _).low⟩
end Go.Proofs.Ythcapomobidnbaa
end
