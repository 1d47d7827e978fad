/- The law RemeasureTells: for every input it returns true, and its arguments read behind the call as before it. No conditions. -/
import Derived.Test.YthcapomobidnbaaPk6
import Derived.Deep.DeepCutAuto
import Derived.Deep.RegionWith
section
/- What the type table says of scutageref09.Change. -/
namespace Go.Proofs.Ythcapomobidnbaa
open Go.RowKit Go.Sl
set_option maxHeartbeats 1000000
set_option maxRecDepth 100000
theorem info_rchg : Info Try.prog 60 (.agg #[.int .i64 0, .int .i64 0]) 2 16 := by unfold Info; kernel_rfl
end Go.Proofs.Ythcapomobidnbaa
end
section
/- '==' and '!=' of scutageref09.Change. -/
namespace Go.Proofs.Ythcapomobidnbaa
open Go.RowKit Go.Sl
set_option maxHeartbeats 1000000
set_option maxRecDepth 100000
theorem equalIn_rchg (d : Nat) (x0 y0 : Int) (x1 y1 : Int) (w : World) : (Op.equalIn (d + 2) 60 (.agg #[.int .i64 x0, .int .i64 x1]) (.agg #[.int .i64 y0, .int .i64 y1])).run Try.prog w = .ok (x0 == y0 && (x1 == y1 && (true))) w := by
  refine equalIn_struct (d := d + 1) Try.underlying60 (by kernel_rfl) ?_
  refine eqFields_cons (by rfl) (by go_simp; rfl) (by go_simp; rfl) (by go_simp) ?_
  refine eqFields_cons (by rfl) (by go_simp; rfl) (by go_simp; rfl) (by go_simp) ?_
  exact eqFields_nil
theorem eqc_rchg (x y : SItem) : (x.kind == y.kind && (x.amt == y.amt && (true))) = decide (x = y) := by
  rw [Bool.eq_iff_iff]; cases x; cases y; simp
theorem ne_rchg (x y : SItem) (w : World) : (binOp .neq 60 (.agg #[.int .i64 x.kind, .int .i64 x.amt]) (.agg #[.int .i64 y.kind, .int .i64 y.amt])).run Try.prog w = .ok (.bool (neB x y)) w := by
  have h := equalIn_rchg 9998 x.kind y.kind x.amt y.amt w
  simp only [Nat.reduceAdd] at h
  rw [neq_struct h, eqc_rchg]; rfl
theorem eq_rchg (x y : SItem) (w : World) : (binOp .eql 60 (.agg #[.int .i64 x.kind, .int .i64 x.amt]) (.agg #[.int .i64 y.kind, .int .i64 y.amt])).run Try.prog w = .ok (.bool (eqB x y)) w := by
  have h := equalIn_rchg 9998 x.kind y.kind x.amt y.amt w
  simp only [Nat.reduceAdd] at h
  rw [eql_struct h, eqc_rchg]; rfl
end Go.Proofs.Ythcapomobidnbaa
end
section
/- The walk of law17.RemeasureTells. -/
namespace Go.Sl
open Go Go.RowKit
end Go.Sl
namespace Go.Sl
theorem LoR.set0 {l : List STri} (g : LoR l) {x : STri} (hx : l[0]? = some x) {v : Int} (hv : v ≠ 0) : LoR (l.set 0 ⟨x.a, x.b, v⟩) := by
  cases l with
  | nil => simp at hx
  | cons y l =>
    simp at hx; subst hx
    refine ⟨?_, fun b hb => ?_, fun b hb => ?_⟩
    · have := List.pairwise_cons.1 g.rise
      exact List.pairwise_cons.2 ⟨fun z hz => this.1 z hz, this.2⟩
    · simp at hb
      rcases hb with rfl | hb
      · exact hv
      · exact g.nz b (by simp [hb])
    · simp at hb
      rcases hb with rfl | hb
      · exact g.rng y (by simp)
      · exact g.rng b (by simp [hb])
end Go.Sl
namespace Go.Proofs.Ythcapomobidnbaa
open Go.RowKit Go.Sl
set_option maxHeartbeats 1500000
set_option maxRecDepth 100000
theorem remeasureTells_calls (A B D F : Option Addr) (ca cb cd cf : Nat) (za zb zo zn : List Int) (more amt : Int) (h1 h2 h3 h4 : Hp) (w : World) (hs1 : h1.sub w) (hs2 : h2.sub w) (hs3 : h3.sub w) (hs4 : h4.sub w) (s1 : Sl kInt h1 A ca za) (s2 : Sl kInt h2 B cb zb) (s3 : Sl kInt h3 D cd zo) (s4 : Sl kInt h4 F cf zn)
    (w1 : ∀ n ∈ za, I64 n) (w2 : ∀ n ∈ zb, I64 n) (wa : I64 amt) :
    Calls Try.prog 9 #[.slice A za.length ca, .slice B zb.length cb, .slice D zo.length cd, .slice F zn.length cf, .int .i64 more, .int .i64 amt] w fun e w' => e = .returned (.bool true) ∧ Below w.heap.size w w' := by
  have E0 := Env.start w
  have RX := fun W l (E : Env w W l) => Rol.reg E s1 (hs1.of_below E.low) w1
  have RY := fun W l (E : Env w W l) => Rol.reg E s2 (hs2.of_below E.low) w2
  have gx := regOf_good za
  have gy := regOf_good zb
  generalize regOf za = xs at *
  generalize regOf zb = ys at *
  clear hs1 hs2 s1 s2 w1 w2
  go_enter Try.func9, Try.ntmps9
  go_upto_region 1 with fail
  go_cut [13, 14] (fun x y wx => ∃ (hx hy : Hp) (AX AY : Option Addr) (cx cy : Nat), x = .slice AX xs.length cx ∧ y = .slice AY ys.length cy ∧ Ow kTri hx AX cx xs ∧ Ow kTri hy AY cy ys ∧ Env w wx [hx, hy])
  case first =>
    go_region_with (first
        | (go_at_call 15; ((with_reducible refine (RX _ _ (by repeat (first | (with_reducible exact E0) | (with_reducible apply Env.drew) | (with_reducible apply Env.drewN) | (with_reducible apply Env.alloc')))).mono ?_)); rintro e w2 ⟨hx, bx, rfl, px, E1⟩; obtain ⟨AX, cx, kx, ox⟩ := px.regO (E1.sub 0 rfl))
        | (go_at_call 15; ((with_reducible refine (RY _ _ (by repeat (first | (with_reducible exact E1) | (with_reducible apply Env.drew) | (with_reducible apply Env.drewN) | (with_reducible apply Env.alloc')))).mono ?_)); rintro e w3 ⟨hy, by', rfl, py, E2⟩; obtain ⟨AY, cy, ky, oy⟩ := py.regO (E2.sub 1 rfl); obtain ⟨AX', cx', kx', ox'⟩ := px.regO (E2.sub 0 rfl))
        | fail)
    all_goals
      go_wp2_with fail
      go_meet
      have E3 := (E2.weak 0 rfl (Hp.del_le _ bx)).weak 1 rfl (Hp.del_le _ by')
      first
        | exact ⟨_, _, _, _, _, _, rfl, rfl, ox, oy, E3⟩
        | exact ⟨_, _, _, _, _, _, rfl, rfl, ox', oy, E3⟩
  case rest =>
    obtain ⟨hx, hy, AX, AY, cx, cy, rfl, rfl, ox, oy, E2⟩ := hcut
    have lx := gx.len
    have ly := gy.len
    have FR := fun (W : World) (l : List Hp) (E : Env w W l) (s1 : hx.sub W) (s2 : hy.sub W) => refForward_calls AX AY cx cy xs ys hx hy W s1 s2 ox.sl oy.sl
    have ln := len_ref gx gy
    obtain ⟨nr, HN⟩ : ∃ rows, rows = refFwd xs ys := ⟨_, rfl⟩
    rw [← HN] at ln FR
    clear HN
    generalize hn0 : nr.length = n0 at *
    have l1 := within_lo more (n := 9) (by omega)
    have l2 := within_hi more (n := 9) (by omega)
    obtain ⟨q, hq, hq1⟩ : ∃ q : Nat, within more 9 / 8 = (q : Int) ∧ q ≤ 1 := ⟨(within more 9 / 8).toNat, by omega, by omega⟩
    have WC := fun W => within_calls more 9 W (by omega) (by omega)
    generalize within more 9 = k at *
    have L1 := Lib.hid (ratesOf_len zo n0)
    have L2 := Lib.hid (ratesOf_len zn (n0 + q))
    have i1 : (0 : Int) ≤ (n0 : Int) := by omega
    have i2 : (n0 : Int) ≤ 24 := by omega
    have i3 : (0 : Int) ≤ (q : Int) := by omega
    have i4 : (q : Int) ≤ 1 := by omega
    have RA := fun (W : World) (l : List Hp) (E : Env w W l) => Rol.rates E s3 (hs3.of_below E.low) n0 (by omega) _ rfl rfl
    have RB := fun (W : World) (l : List Hp) (E : Env w W l) => Rol.rates E s4 (hs4.of_below E.low) (n0 + q) (by omega) ((n0 : Int) + q) (by omega) rfl
    generalize ratesOf zo n0 = os at *
    generalize ratesOf zn (n0 + q) = ns at *
    go_wp2_with fail
    refine (FR _ _ E2 (E2.sub 0 rfl) (E2.sub 1 rfl)).mono ?_
    rintro e w3 ⟨C3, n3, hq3, rfl, o3, u3⟩
    have E3 := E2.new u3
    simp at E3

    clear FR hn0

    go_wp2_with fail
    refine (RA _ _ E3).mono ?_
    rintro e w4 ⟨CO, no, ho, rfl, oo, E4⟩
    simp at E4
    go_wp2_with fail
    refine (WC _).mono ?_
    rintro e w5 ⟨rfl, rfl⟩
    go_wp2_with fail
    refine (RB _ _ E4).mono ?_
    rintro e w6 ⟨CN, nn, hn, rfl, on, E6⟩
    simp at E6
    clear WC RA RB hq
    by_cases hm : more.tmod 13 = 12
    · have t1 : (more.tmod 13 == 12) = true := by simpa using hm
      clear hm
      have AC := amount_calls amt wa
      generalize amount amt = v at *
      by_cases h0 : 0 < xs.length
      · obtain ⟨x0, hx0⟩ := some_of_lt h0
        obtain ⟨b1, o1, rfl, c1, c2, c3⟩ := ox.sl.tri (E6.sub 0 rfl) hx0
        rw [Nat.zero_mul, Nat.add_zero] at c1 c2 c3
        have hf := ox.cell_free (E6.sub 0 rfl) h0
        obtain ⟨g, og, ug⟩ := Ow.set (x' := ⟨x0.a, x0.b, v⟩) (v := .int .i64 v) (j := 2) ox (E6.sub 0 rfl) hx0.out (by decide) rfl
        rw [Nat.zero_mul, Nat.add_zero] at ug
        have E7 := E6.upd 0 rfl ug
        simp only [List.set_cons_zero] at E7
        clear ug
        by_cases hv : v = 0
        · subst hv
          go_wp2_with fail
          refine (AC _).mono ?_
          rintro e w7 ⟨rfl, rfl⟩
          go_wp2_with fail
          refine (wakes17 _).mono ?_
          rintro e w20 ⟨rfl, b20⟩
          go_wp2
          go_ret
          exact ⟨rfl, E7.low.trans (b20.mono E7.low.size)⟩
        · have t2 : (v == 0) = false := by simpa using hv
          have glo : LoR (xs.set 0 ⟨x0.a, x0.b, v⟩) := gx.lo.set0 hx0.out hv
          clear hv
          generalize hxs' : xs.set 0 ⟨x0.a, x0.b, v⟩ = xs' at *
          have hlen : xs'.length = xs.length := by rw [← hxs', List.length_set]
          have HLen := Lib.hid hlen
          clear hxs' hlen c1 c2
          go_wp2_with fail
          refine (AC _).mono ?_
          rintro e w7 ⟨rfl, rfl⟩
          have HF := fwd_ref' glo gy.lo
          have lx2 : (xs').length ≤ 12 := by rw [HLen.out]; omega
          have RT := fun (rows : List SWay) (W : World) (l : List Hp) (E : Env w W l) (hf : fwd xs' ys = rows) (s1 : g.sub W) (s2 : hy.sub W) (s3 : ho.sub W) (s4 : hn.sub W) => Rem.temp E og.sl s1 oy.sl s2 oo.sl s3 on.sl s4 (by omega) (by omega) _ _ _ _ HLen.out rfl L1.out L2.out hf rfl rfl rfl
          have RR := fun (rows : List SWay) (W : World) (l : List Hp) (E : Env w W l) (hf : refFwd xs' ys = rows) (s1 : g.sub W) (s2 : hy.sub W) (s3 : ho.sub W) (s4 : hn.sub W) => Rem.ref E og.sl s1 oy.sl s2 oo.sl s3 on.sl s4 _ _ _ _ HLen.out rfl L1.out L2.out hf rfl rfl rfl
          obtain ⟨rows, hrw⟩ : ∃ rows, refFwd xs' ys = rows := ⟨_, rfl⟩
          have RT2 := fun (W : World) (l : List Hp) (E : Env w W l) => RT rows W l E (HF.trans hrw)
          have RR2 := fun (W : World) (l : List Hp) (E : Env w W l) => RR rows W l E hrw
          clear RT RR HF hrw
          generalize remMo rows os ns = M at *
          generalize remRa rows os ns = R at *
          generalize remE rows os ns = Er at *
          have e1 : IntKind.i64.wrap (M + R) = wrap64 (M + R) := by rw [IntKind.wrap_i64]; unfold wrap64; omega
          have TC := fun (W : World) (l : List Hp) (E : Env w W l) => Rem.total E M R rfl
          have HE1 := eq_chg ⟨M, R⟩ ⟨M, R⟩
          have HE2 := eq_rchg ⟨M, R⟩ ⟨M, R⟩
          rw [eqB_t rfl] at HE1 HE2
          dsimp only at HE1 HE2
          generalize wrap64 (M + R) = T at *
          go_wp2_with fail
          refine (RT2 _ _ E7 (Env.sub E7 0 rfl) (Env.sub E7 1 rfl) (Env.sub E7 3 rfl) (Env.sub E7 4 rfl)).mono ?_
          rintro e w10 ⟨rfl, E10⟩
          have E11 := E10.alloc (.cells #[.int .i64 M, .int .i64 R] 52)
          simp at E11
          go_wp2_with fail
          refine (RR2 _ _ E11 (Env.sub E11 0 rfl) (Env.sub E11 1 rfl) (Env.sub E11 3 rfl) (Env.sub E11 4 rfl)).mono ?_
          rintro e w12 ⟨rfl, E12⟩
          have E13 := E12.alloc (.cells #[.int .i64 M, .int .i64 R] 60)
          simp at E13
          have EC := fun (W : World) (E : Env w W [g, hy, hq3, ho, hn, Hp.box w10.heap.size [.int .i64 M, .int .i64 R] 52, Hp.box w12.heap.size [.int .i64 M, .int .i64 R] 60]) => (⟨E.cell 5 rfl 0 rfl, E.cell 5 rfl 1 rfl, E.cell 6 rfl 0 rfl, E.cell 6 rfl 1 rfl⟩ : W.cell? ⟨w10.heap.size, 0, none⟩ = some (.int .i64 M) ∧ W.cell? ⟨w10.heap.size, 1, none⟩ = some (.int .i64 R) ∧ W.cell? ⟨w12.heap.size, 0, none⟩ = some (.int .i64 M) ∧ W.cell? ⟨w12.heap.size, 1, none⟩ = some (.int .i64 R))
          obtain ⟨c0, c1, c2, c3⟩ := EC _ E13
          go_wp2
          go_region_held3 (fun w' => w'.cell? ⟨w10.heap.size, 0, none⟩ = some (.int .i64 M) ∧ w'.cell? ⟨w10.heap.size, 1, none⟩ = some (.int .i64 R) ∧ w'.cell? ⟨w12.heap.size, 0, none⟩ = some (.int .i64 M) ∧ w'.cell? ⟨w12.heap.size, 1, none⟩ = some (.int .i64 R))
            (first | go_keep | (exact hkeep))
            (first
              | (go_at_call 28; ((with_reducible refine (TC _ _ (by repeat (first | (with_reducible exact E13) | (with_reducible apply Env.drew) | (with_reducible apply Env.drewN) | (with_reducible apply Env.alloc')))).mono ?_)); rintro e w14 ⟨rfl, E14⟩; have hkeep := EC _ E14)
              | (go_at_call 27; ((with_reducible refine (wakes17 _).mono ?_)); rintro e w15 ⟨rfl, B15⟩; have hkeep := EC _ (Env.below (by repeat (first | (with_reducible exact E14) | (with_reducible apply Env.drew) | (with_reducible apply Env.drewN) | (with_reducible apply Env.alloc'))) B15))
              | fail)
          go_wp2
          go_ret
          exact ⟨rfl, by repeat (first | exact (Env.below (by repeat (first | (with_reducible exact E14) | (with_reducible apply Env.drew) | (with_reducible apply Env.drewN) | (with_reducible apply Env.alloc'))) B15).low | apply Below.drew)⟩
      · have h1 : xs.length = 0 := by omega
        have t2 : decide ((0 : Int) < (xs.length : Int)) = false := decide_eq_false (by omega)
        clear AC h1
        have HF := fwd_ref' gx.lo gy.lo
        have lx2 : (xs).length ≤ 12 := by omega
        have RT := fun (rows : List SWay) (W : World) (l : List Hp) (E : Env w W l) (hf : fwd xs ys = rows) (s1 : hx.sub W) (s2 : hy.sub W) (s3 : ho.sub W) (s4 : hn.sub W) => Rem.temp E ox.sl s1 oy.sl s2 oo.sl s3 on.sl s4 (by omega) (by omega) _ _ _ _ rfl rfl L1.out L2.out hf rfl rfl rfl
        have RR := fun (rows : List SWay) (W : World) (l : List Hp) (E : Env w W l) (hf : refFwd xs ys = rows) (s1 : hx.sub W) (s2 : hy.sub W) (s3 : ho.sub W) (s4 : hn.sub W) => Rem.ref E ox.sl s1 oy.sl s2 oo.sl s3 on.sl s4 _ _ _ _ rfl rfl L1.out L2.out hf rfl rfl rfl
        obtain ⟨rows, hrw⟩ : ∃ rows, refFwd xs ys = rows := ⟨_, rfl⟩
        have RT2 := fun (W : World) (l : List Hp) (E : Env w W l) => RT rows W l E (HF.trans hrw)
        have RR2 := fun (W : World) (l : List Hp) (E : Env w W l) => RR rows W l E hrw
        clear RT RR HF hrw
        generalize remMo rows os ns = M at *
        generalize remRa rows os ns = R at *
        generalize remE rows os ns = Er at *
        have e1 : IntKind.i64.wrap (M + R) = wrap64 (M + R) := by rw [IntKind.wrap_i64]; unfold wrap64; omega
        have TC := fun (W : World) (l : List Hp) (E : Env w W l) => Rem.total E M R rfl
        have HE1 := eq_chg ⟨M, R⟩ ⟨M, R⟩
        have HE2 := eq_rchg ⟨M, R⟩ ⟨M, R⟩
        rw [eqB_t rfl] at HE1 HE2
        dsimp only at HE1 HE2
        generalize wrap64 (M + R) = T at *
        go_wp2_with fail
        refine (RT2 _ _ E6 (Env.sub E6 0 rfl) (Env.sub E6 1 rfl) (Env.sub E6 3 rfl) (Env.sub E6 4 rfl)).mono ?_
        rintro e w10 ⟨rfl, E10⟩
        have E11 := E10.alloc (.cells #[.int .i64 M, .int .i64 R] 52)
        simp at E11
        go_wp2_with fail
        refine (RR2 _ _ E11 (Env.sub E11 0 rfl) (Env.sub E11 1 rfl) (Env.sub E11 3 rfl) (Env.sub E11 4 rfl)).mono ?_
        rintro e w12 ⟨rfl, E12⟩
        have E13 := E12.alloc (.cells #[.int .i64 M, .int .i64 R] 60)
        simp at E13
        have EC := fun (W : World) (E : Env w W [hx, hy, hq3, ho, hn, Hp.box w10.heap.size [.int .i64 M, .int .i64 R] 52, Hp.box w12.heap.size [.int .i64 M, .int .i64 R] 60]) => (⟨E.cell 5 rfl 0 rfl, E.cell 5 rfl 1 rfl, E.cell 6 rfl 0 rfl, E.cell 6 rfl 1 rfl⟩ : W.cell? ⟨w10.heap.size, 0, none⟩ = some (.int .i64 M) ∧ W.cell? ⟨w10.heap.size, 1, none⟩ = some (.int .i64 R) ∧ W.cell? ⟨w12.heap.size, 0, none⟩ = some (.int .i64 M) ∧ W.cell? ⟨w12.heap.size, 1, none⟩ = some (.int .i64 R))
        obtain ⟨c0, c1, c2, c3⟩ := EC _ E13
        go_wp2
        go_region_held3 (fun w' => w'.cell? ⟨w10.heap.size, 0, none⟩ = some (.int .i64 M) ∧ w'.cell? ⟨w10.heap.size, 1, none⟩ = some (.int .i64 R) ∧ w'.cell? ⟨w12.heap.size, 0, none⟩ = some (.int .i64 M) ∧ w'.cell? ⟨w12.heap.size, 1, none⟩ = some (.int .i64 R))
          (first | go_keep | (exact hkeep))
          (first
            | (go_at_call 28; ((with_reducible refine (TC _ _ (by repeat (first | (with_reducible exact E13) | (with_reducible apply Env.drew) | (with_reducible apply Env.drewN) | (with_reducible apply Env.alloc')))).mono ?_)); rintro e w14 ⟨rfl, E14⟩; have hkeep := EC _ E14)
            | (go_at_call 27; ((with_reducible refine (wakes17 _).mono ?_)); rintro e w15 ⟨rfl, B15⟩; have hkeep := EC _ (Env.below (by repeat (first | (with_reducible exact E14) | (with_reducible apply Env.drew) | (with_reducible apply Env.drewN) | (with_reducible apply Env.alloc'))) B15))
            | fail)
        go_wp2
        go_ret
        exact ⟨rfl, by repeat (first | exact (Env.below (by repeat (first | (with_reducible exact E14) | (with_reducible apply Env.drew) | (with_reducible apply Env.drewN) | (with_reducible apply Env.alloc'))) B15).low | apply Below.drew)⟩
    · have t1 : (more.tmod 13 == 12) = false := by simpa using hm
      clear hm
      have HF := fwd_ref' gx.lo gy.lo
      have lx2 : (xs).length ≤ 12 := by omega
      have RT := fun (rows : List SWay) (W : World) (l : List Hp) (E : Env w W l) (hf : fwd xs ys = rows) (s1 : hx.sub W) (s2 : hy.sub W) (s3 : ho.sub W) (s4 : hn.sub W) => Rem.temp E ox.sl s1 oy.sl s2 oo.sl s3 on.sl s4 (by omega) (by omega) _ _ _ _ rfl rfl L1.out L2.out hf rfl rfl rfl
      have RR := fun (rows : List SWay) (W : World) (l : List Hp) (E : Env w W l) (hf : refFwd xs ys = rows) (s1 : hx.sub W) (s2 : hy.sub W) (s3 : ho.sub W) (s4 : hn.sub W) => Rem.ref E ox.sl s1 oy.sl s2 oo.sl s3 on.sl s4 _ _ _ _ rfl rfl L1.out L2.out hf rfl rfl rfl
      obtain ⟨rows, hrw⟩ : ∃ rows, refFwd xs ys = rows := ⟨_, rfl⟩
      have RT2 := fun (W : World) (l : List Hp) (E : Env w W l) => RT rows W l E (HF.trans hrw)
      have RR2 := fun (W : World) (l : List Hp) (E : Env w W l) => RR rows W l E hrw
      clear RT RR HF hrw
      generalize remMo rows os ns = M at *
      generalize remRa rows os ns = R at *
      generalize remE rows os ns = Er at *
      have e1 : IntKind.i64.wrap (M + R) = wrap64 (M + R) := by rw [IntKind.wrap_i64]; unfold wrap64; omega
      have TC := fun (W : World) (l : List Hp) (E : Env w W l) => Rem.total E M R rfl
      have HE1 := eq_chg ⟨M, R⟩ ⟨M, R⟩
      have HE2 := eq_rchg ⟨M, R⟩ ⟨M, R⟩
      rw [eqB_t rfl] at HE1 HE2
      dsimp only at HE1 HE2
      generalize wrap64 (M + R) = T at *
      go_wp2_with fail
      refine (RT2 _ _ E6 (Env.sub E6 0 rfl) (Env.sub E6 1 rfl) (Env.sub E6 3 rfl) (Env.sub E6 4 rfl)).mono ?_
      rintro e w10 ⟨rfl, E10⟩
      have E11 := E10.alloc (.cells #[.int .i64 M, .int .i64 R] 52)
      simp at E11
      go_wp2_with fail
      refine (RR2 _ _ E11 (Env.sub E11 0 rfl) (Env.sub E11 1 rfl) (Env.sub E11 3 rfl) (Env.sub E11 4 rfl)).mono ?_
      rintro e w12 ⟨rfl, E12⟩
      have E13 := E12.alloc (.cells #[.int .i64 M, .int .i64 R] 60)
      simp at E13
      have EC := fun (W : World) (E : Env w W [hx, hy, hq3, ho, hn, Hp.box w10.heap.size [.int .i64 M, .int .i64 R] 52, Hp.box w12.heap.size [.int .i64 M, .int .i64 R] 60]) => (⟨E.cell 5 rfl 0 rfl, E.cell 5 rfl 1 rfl, E.cell 6 rfl 0 rfl, E.cell 6 rfl 1 rfl⟩ : W.cell? ⟨w10.heap.size, 0, none⟩ = some (.int .i64 M) ∧ W.cell? ⟨w10.heap.size, 1, none⟩ = some (.int .i64 R) ∧ W.cell? ⟨w12.heap.size, 0, none⟩ = some (.int .i64 M) ∧ W.cell? ⟨w12.heap.size, 1, none⟩ = some (.int .i64 R))
      obtain ⟨c0, c1, c2, c3⟩ := EC _ E13
      go_wp2
      go_region_held3 (fun w' => w'.cell? ⟨w10.heap.size, 0, none⟩ = some (.int .i64 M) ∧ w'.cell? ⟨w10.heap.size, 1, none⟩ = some (.int .i64 R) ∧ w'.cell? ⟨w12.heap.size, 0, none⟩ = some (.int .i64 M) ∧ w'.cell? ⟨w12.heap.size, 1, none⟩ = some (.int .i64 R))
        (first | go_keep | (exact hkeep))
        (first
          | (go_at_call 28; ((with_reducible refine (TC _ _ (by repeat (first | (with_reducible exact E13) | (with_reducible apply Env.drew) | (with_reducible apply Env.drewN) | (with_reducible apply Env.alloc')))).mono ?_)); rintro e w14 ⟨rfl, E14⟩; have hkeep := EC _ E14)
          | (go_at_call 27; ((with_reducible refine (wakes17 _).mono ?_)); rintro e w15 ⟨rfl, B15⟩; have hkeep := EC _ (Env.below (by repeat (first | (with_reducible exact E14) | (with_reducible apply Env.drew) | (with_reducible apply Env.drewN) | (with_reducible apply Env.alloc'))) B15))
          | fail)
      go_wp2
      go_ret
      exact ⟨rfl, by repeat (first | exact (Env.below (by repeat (first | (with_reducible exact E14) | (with_reducible apply Env.drew) | (with_reducible apply Env.drewN) | (with_reducible apply Env.alloc'))) B15).low | apply Below.drew)⟩
end Go.Proofs.Ythcapomobidnbaa
end
namespace Go.Proofs.Ythcapomobidnbaa.remeasureTells
open Go.ChangeShapes Go.WideShapes Go.ChangeAt Go.RowKit Go.Sl
set_option linter.unusedVariables false
set_option maxRecDepth 100000
theorem lifted (os : Os) (started : os.Started) (H : Type) (enc : TypeId × Value → H) :
    ReturnsInHanded {} Try.checked os 9 .any (Rows.remeasureTellsSpec.pre6 enc Try.prog Try.f9 Rows.remeasureTellsRow.domain false) (Rows.remeasureTellsSpec.post enc Try.prog Try.f9 false true false false) := by
  refine returnsInHanded_of_change_sized (C := Try.checked) Lift.own started (by kernel_rfl) Try.func9
    (ChangeSpec.witness6 (enc := enc) (C := Try.checked) false ⟨#[], #[.slice none 0 0, .slice none 0 0, .slice none 0 0, .slice none 0 0, .int .i64 0, .int .i64 0], []⟩ 8 (by kernel_rfl) (by kernel_rfl) (by kernel_rfl) (by kernel_rfl)) ?_
  intro W base args ds gs before hval0 hW hcnd hsz0 _
  have hval : ∀ (j : Nat) t v, Try.f9.params[j]? = some t → args[j]? = some v → Value.okWide Try.prog W .any base t v := hval0
  have hW' := hW
  obtain ⟨p, q, hA0, hV, rfl, hfz, hnd⟩ := hW
  have hA : DataW.TrodAll enc Try.prog W 0 (fun _ => true) true Try.f9.params.toList args.toList ds p := hA0
  rw [Try.params9] at hA hval
  obtain ⟨v0, vs0, d0, ds0, p0, q0, hargs, rfl, rfl, h0, r0⟩ := trodAll_cons hA
  obtain ⟨v1, vs1, d1, ds1, p1, q1, rfl, rfl, rfl, h1, r1⟩ := trodAll_cons r0
  obtain ⟨v2, vs2, d2, ds2, p2, q2, rfl, rfl, rfl, h2, r2⟩ := trodAll_cons r1
  obtain ⟨v3, vs3, d3, ds3, p3, q3, rfl, rfl, rfl, h3, r3⟩ := trodAll_cons r2
  obtain ⟨v4, vs4, d4, ds4, p4, q4, rfl, rfl, rfl, h4, r4⟩ := trodAll_cons r3
  obtain ⟨v5, vs5, d5, ds5, p5, q5, rfl, rfl, rfl, h5, r5⟩ := trodAll_cons r4
  obtain ⟨rfl, rfl, rfl⟩ := trodAll_nil r5
  obtain rfl : args = #[v0, v1, v2, v3, v4, v5] := by cases args; simp_all
  obtain ⟨rfl, rfl⟩ := trodVars_none hV
  have k0 := h0
  have lt0 : ∀ x ∈ p0, x.block < W.heap.size := by obtain ⟨m, hm⟩ := k0; exact DataW.trod_lt m _ _ _ hm
  obtain ⟨A0, c0, z0, rfl, s0, w0⟩ := Lift.ints_of (hval 0 22 v0 rfl rfl) h0
  have k1 := h1
  have lt1 : ∀ x ∈ p1, x.block < W.heap.size := by obtain ⟨m, hm⟩ := k1; exact DataW.trod_lt m _ _ _ hm
  obtain ⟨A1, c1, z1, rfl, s1, w1⟩ := Lift.ints_of (hval 1 22 v1 rfl rfl) h1
  have k2 := h2
  have lt2 : ∀ x ∈ p2, x.block < W.heap.size := by obtain ⟨m, hm⟩ := k2; exact DataW.trod_lt m _ _ _ hm
  obtain ⟨A2, c2, z2, rfl, s2, w2⟩ := Lift.ints_of (hval 2 22 v2 rfl rfl) h2
  have k3 := h3
  have lt3 : ∀ x ∈ p3, x.block < W.heap.size := by obtain ⟨m, hm⟩ := k3; exact DataW.trod_lt m _ _ _ hm
  obtain ⟨A3, c3, z3, rfl, s3, w3⟩ := Lift.ints_of (hval 3 22 v3 rfl rfl) h3
  obtain ⟨a4, rfl, rfl, rfl, x4⟩ := open_int Try.underlying3 (hval 4 3 v4 rfl rfl) h4
  have w4 := I64.of_wf x4
  obtain ⟨a5, rfl, rfl, rfl, x5⟩ := open_int Try.underlying3 (hval 5 3 v5 rfl rfl) h5
  have w5 := I64.of_wf x5
  clear hA0 hval0 hsz0
  refine (remeasureTells_calls A0 A1 A2 A3 c0 c1 c2 c3 z0 z1 z2 z3 a4 a5 (Hp.all W) (Hp.all W) (Hp.all W) (Hp.all W) W (Hp.all_sub W) (Hp.all_sub W) (Hp.all_sub W) (Hp.all_sub W) s0 s1 s2 s3 w0 w1 w5).mono fun e W' ⟨he, bel⟩ => ?_
  subst he
  exact ⟨_, rfl, _, _, _, [], _, [], hW', trodAll_mk1 (shut_bool Try.underlying4 _), (trodAll_cons_mk (Below.trod Lift.laidOut (by kernel_rfl) (of_decide_eq_true (by kernel_rfl)) k0 bel lt0) (trodAll_cons_mk (Below.trod Lift.laidOut (by kernel_rfl) (of_decide_eq_true (by kernel_rfl)) k1 bel lt1) (trodAll_cons_mk (Below.trod Lift.laidOut (by kernel_rfl) (of_decide_eq_true (by kernel_rfl)) k2 bel lt2) (trodAll_cons_mk (Below.trod Lift.laidOut (by kernel_rfl) (of_decide_eq_true (by kernel_rfl)) k3 bel lt3) (trodAll_cons_mk (shut_int Try.underlying3 x4) (trodAll_cons_mk (shut_int Try.underlying3 x5) trodAll_mk0)))))), rfl, bel.frame _, fun h => by cases h⟩
theorem over : Rows.remeasureTellsRow.holds Try.pinned (OpenSpec.ofChange Rows.remeasureTellsSpec) :=
  OpenClaim.holds_of_wide 9 Try.f9 rfl rfl rfl rfl rfl rfl rfl ⟨rfl, rfl, rfl, rfl, rfl⟩ rfl rfl rfl rfl rfl (by kernel_rfl) Try.func9 (by kernel_rfl)
    (of_decide_eq_true (by kernel_rfl)) (by unfold Func.isWrapper; first | (rw [if_pos (by decide +kernel)]; kernel_rfl) | (rw [if_neg (by decide +kernel)]; exact ⟨rfl, rfl⟩))
    (fun os started H enc _ => lifted os started H enc)
end Go.Proofs.Ythcapomobidnbaa.remeasureTells
namespace Go.Proofs.Ythcapomobidnbaa
theorem remeasureTells_holds : Rows.RemeasureTellsSaid := remeasureTells.over
#print axioms remeasureTells_holds
end Go.Proofs.Ythcapomobidnbaa
