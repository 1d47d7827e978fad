/- Walks and plain facts that the laws of this seat share, part 4: contracts of functions, each said at its theorem. -/
import Derived.Test.YtdcfojohgcmpcaaPk3
import Derived.Deep.QuietTactic
import Derived.BigQuiet
import Derived.WalkKit
import Derived.Laws.StructEq
set_option linter.all false
section
/- The asset of pairs, plain. -/
namespace Go.Sl
open Go Go.RowKit
def assOk (x : SPair) (r : Int) : Bool := rightRate r && (!decide (x.amt < 0) && money x.amt)
def assAll : List SPair → List Int → Bool
  | b :: bs, r :: rs => assOk b r && assAll bs rs
  | _, _ => true
def assS : List SPair → List Int → Int
  | b :: bs, r :: rs => ofVal b.amt r + assS bs rs
  | _, _ => 0
def assE (bs : List SPair) (rs : List Int) : Int :=
  if rs.length ≠ bs.length then 1
  else if assAll bs rs = false then 1
  else if money (assS bs rs) = false then 6 else 0
def assN (bs : List SPair) (rs : List Int) : Int := if assE bs rs = 0 then assS bs rs else 0
theorem assS_snoc {b : SPair} {r : Int} : ∀ {bs : List SPair} {rs : List Int}, bs.length = rs.length → assS (bs ++ [b]) (rs ++ [r]) = assS bs rs + ofVal b.amt r
  | [], [], _ => by simp [assS]
  | x :: bs, y :: rs, h => by
    have := assS_snoc (b := b) (r := r) (bs := bs) (rs := rs) (by simpa using h)
    simp only [List.cons_append, assS, this]; omega
  | [], _ :: _, h => by simp at h
  | _ :: _, [], h => by simp at h
theorem assAll_snoc {b : SPair} {r : Int} : ∀ {bs : List SPair} {rs : List Int}, bs.length = rs.length → assAll (bs ++ [b]) (rs ++ [r]) = (assAll bs rs && assOk b r)
  | [], [], _ => by simp [assAll]
  | x :: bs, y :: rs, h => by
    have := assAll_snoc (b := b) (r := r) (bs := bs) (rs := rs) (by simpa using h)
    simp only [List.cons_append, assAll, this, Bool.and_assoc]
  | [], _ :: _, h => by simp at h
  | _ :: _, [], h => by simp at h
theorem assS_bd : ∀ (bs : List SPair) (rs : List Int), -(bs.length * 4000000000001) ≤ assS bs rs ∧ assS bs rs ≤ bs.length * 4000000000001
  | b :: bs, r :: rs => by
    have h1 := assS_bd bs rs
    have h2 := ofVal_bd b.amt r
    simp only [assS, List.length_cons]; omega
  | [], _ => by simp [assS]
  | _ :: _, [] => by simp only [assS, List.length_cons]; omega
theorem assAll_no {b : SPair} {r : Int} : ∀ {bs : List SPair} {rs : List Int} {j : Nat}, bs[j]? = some b → rs[j]? = some r → assOk b r = false → assAll bs rs = false
  | x :: bs, y :: rs, 0, h1, h2, h => by
    simp at h1 h2; subst h1; subst h2
    simp [assAll, h]
  | x :: bs, y :: rs, j + 1, h1, h2, h => by
    have := assAll_no (bs := bs) (rs := rs) (j := j) (by simpa using h1) (by simpa using h2) h
    simp [assAll, this]
  | [], _, _, h1, _, _ => by simp at h1
  | _ :: _, [], _, _, h2, _ => by simp at h2
end Go.Sl
end
section
/- The walk of rate.Right. -/
namespace Go.Proofs.Ytdcfojohgcmpcaa
open Go.RowKit Go.Sl
set_option maxHeartbeats 2000000
theorem rateRight_calls (r : Int) (w : World) : Calls Try.prog 64 #[.int .i64 r] w fun e w' => e = .returned (.bool (rightRate r)) ∧ w = w' := by
  go_enter Try.func64, Try.ntmps64
  go_wp2
  all_goals
    go_ret
    exact ⟨by simp [rightRate]; omega, rfl⟩
end Go.Proofs.Ytdcfojohgcmpcaa
end
section
/- The walk of cross.Asset. -/
namespace Go.Proofs.Ytdcfojohgcmpcaa
open Go.RowKit Go.Sl
set_option maxHeartbeats 2000000
set_option maxRecDepth 100000
theorem asset_calls (A D : Option Addr) (ca cd : Nat) (xs : List SPair) (rs : List Int) (h p : Hp) (w : World) (hs : h.sub w) (ps : p.sub w) (sx : Sl kPair h A ca xs) (so : Sl kInt p D cd rs) (hx : xs.length ≤ 1000) :
    Calls Try.prog 16 #[.slice A xs.length ca, .slice D rs.length cd] w fun e w' => e = .returned (.tuple #[.int .i64 (assN xs rs), .int .i64 (assE xs rs)]) ∧ Below w.heap.size w w' := by
  have m3 := so.small
  go_enter Try.func16, Try.ntmps16
  by_cases hlen : rs.length = xs.length
  · have L1 := Lib.hid hlen
    have t1 : ((rs.length : Int) != (xs.length : Int)) = false := by simp [hlen]
    have HE : Hid (assE xs rs = if assAll xs rs = false then 1 else if money (assS xs rs) = false then 6 else 0) := by
      unfold Hid assE; rw [if_neg (by omega)]
    clear hlen
    go_wp2
    go_loopw [6, 18] (fun s i wr => ∃ (j : Nat) (M : Int), j ≤ xs.length ∧ i = .int .i64 j ∧ s = .int .i64 M ∧ Hid (assAll (xs.take j) (rs.take j) = true) ∧ Hid (M = assS (xs.take j) (rs.take j)) ∧ Below w.heap.size w wr) (fun _ i _ => xs.length - (intOf i).toNat)
    case atStart => exact ⟨0, 0, by omega, rfl, rfl, rfl, rfl, Below.refl _ _⟩
    case round =>
      obtain ⟨j, M, hj, rfl, rfl, ha, hM, hb⟩ := hrel
      have hb1 := assS_bd (xs.take j) (rs.take j)
      rw [← hM.out, List.length_take] at hb1
      have HB : -4000000000001000 ≤ M ∧ M ≤ 4000000000001000 := by omega
      clear hb1
      obtain ⟨q1, q2⟩ := HB
      by_cases hlt : j < xs.length
      · obtain ⟨x, hxx⟩ := some_of_lt hlt
        obtain ⟨r, hrr⟩ := some_of_lt (show j < rs.length by rw [L1.out]; exact hlt)
        obtain ⟨b1, o1, rfl, c1, c2, c3⟩ := sx.pair (hs.of_below hb) hxx
        obtain ⟨b2, o2, rfl, d1⟩ := so.int (ps.of_below hb) hrr
        have d1a := fun o => (cell_alloc (o := o) (World.block_lt_of_cell? _ _ d1)).trans d1
        have i1 : (0 : Int) ≤ (j : Int) := by omega
        have i2 : (j : Int) < (xs.length : Int) := by omega
        have i3 : (j : Int) < (rs.length : Int) := by rw [L1.out]; omega
        obtain ⟨q3, q4⟩ := ofVal_bd x.amt r
        have hll : (xs.take j).length = (rs.take j).length := by rw [List.length_take, List.length_take, L1.out]
        have HTa : Hid (assAll (xs.take (j + 1)) (rs.take (j + 1)) = assOk x r) := by
          unfold Hid; rw [take_next hxx, take_next hrr, assAll_snoc hll, ha.out]; rfl
        have HTm : Hid (assS (xs.take (j + 1)) (rs.take (j + 1)) = M + ofVal x.amt r) := by
          unfold Hid; rw [take_next hxx, take_next hrr, assS_snoc hll, hM.out]
        clear hll
        have HNo : assOk x r = false → Hid (assE xs rs = 1) := fun h => by
          unfold Hid; rw [HE.out, if_pos (assAll_no hxx.out hrr.out h)]
        have HO := fun W => of_calls x.amt r W
        have RO := fun W => rateRight_calls r W
        have M1 := fun W => money_calls x.amt W
        have HOK : assOk x r = (rightRate r && (!decide (x.amt < 0) && money x.amt)) := rfl
        generalize ofVal x.amt r = v1 at *
        generalize assOk x r = ok at *
        cases e0 : rightRate r with
        | false =>
          have HE1 := HNo (by rw [HOK, e0]; rfl)
          have HN1 : Hid (assN xs rs = 0) := by unfold Hid assN; rw [HE1.out]; rfl
          rw [e0] at RO
          clear HNo HOK HTa HO e0
          go_wp2_with (first
            | (go_at_call 64; refine (RO _).mono ?_; rintro e w' ⟨rfl, rfl⟩)
            | (go_at_call 65; refine (M1 _).mono ?_; rintro e w' ⟨rfl, rfl⟩))
          go_ret2
          exact ⟨by rw [HE1.out, HN1.out]; rfl, hb.alloc hb.size _⟩
        | true =>
        cases e2 : decide (x.amt < 0) with
        | true =>
          have HE1 := HNo (by rw [HOK, e0, e2]; rfl)
          have HN1 : Hid (assN xs rs = 0) := by unfold Hid assN; rw [HE1.out]; rfl
          rw [e0] at RO
          clear HNo HOK HTa HO e0
          go_wp2_with (first
            | (go_at_call 64; refine (RO _).mono ?_; rintro e w' ⟨rfl, rfl⟩)
            | (go_at_call 65; refine (M1 _).mono ?_; rintro e w' ⟨rfl, rfl⟩))
          go_ret2
          exact ⟨by rw [HE1.out, HN1.out]; rfl, hb.alloc hb.size _⟩
        | false =>
        cases e1 : money x.amt with
        | false =>
          have HE1 := HNo (by rw [HOK, e0, e1, e2]; rfl)
          have HN1 : Hid (assN xs rs = 0) := by unfold Hid assN; rw [HE1.out]; rfl
          rw [e0] at RO
          rw [e1] at M1
          clear HNo HOK HTa HO e0 e1
          go_wp2_with (first
            | (go_at_call 64; refine (RO _).mono ?_; rintro e w' ⟨rfl, rfl⟩)
            | (go_at_call 65; refine (M1 _).mono ?_; rintro e w' ⟨rfl, rfl⟩))
          go_ret2
          exact ⟨by rw [HE1.out, HN1.out]; rfl, hb.alloc hb.size _⟩
        | true =>
        have hf : ok = true := by rw [HOK, e0, e1, e2]; rfl
        rw [e0] at RO
        rw [e1] at M1
        rw [hf] at HTa
        clear HNo HOK e0 e1 hf
        go_wp2_with (first
          | (go_at_call 64; refine (RO _).mono ?_; rintro e w' ⟨rfl, rfl⟩)
          | (go_at_call 65; refine (M1 _).mono ?_; rintro e w' ⟨rfl, rfl⟩))
        obtain ⟨W, hW⟩ : ∃ W : World, W = wr.alloc (.cells #[.string x.s, .string x.b, .int .i64 x.amt] 27) := ⟨_, rfl⟩
        have q0 : W.cell? ⟨wr.heap.size, 0, none⟩ = some (.string x.s) := by rw [hW]; exact cell_new rfl
        have q1 : W.cell? ⟨wr.heap.size, 1, none⟩ = some (.string x.b) := by rw [hW]; exact cell_new rfl
        have q2 : W.cell? ⟨wr.heap.size, 2, none⟩ = some (.int .i64 x.amt) := by rw [hW]; exact cell_new rfl
        have BW : Below wr.heap.size wr W := by rw [hW]; exact (Below.refl _ _).alloc (Nat.le_refl _) _
        rw [← hW]
        clear hW
        replace d1 := (BW.cell (World.block_lt_of_cell? _ _ d1)).trans d1
        have bW := hb.trans (BW.mono hb.size)
        go_quiet ((go_at_call 66; (first | exact quiet_one (HO _) | exact quiet_more (HO _))))
        go_wp2
        go_roundw
        case rel => exact ⟨j + 1, M + v1, by omega, by go_num, by go_num, HTa, HTm.symm, (by repeat (first | (with_reducible exact bW) | (with_reducible apply Below.drew) | (with_reducible apply Below.drN)))⟩
        case measure => simp [intOf]; omega
      · obtain rfl : j = xs.length := by omega
        rw [List.take_length, List.take_of_length_le (Nat.le_of_eq L1.out)] at ha hM
        have M1 := fun W => money_calls M W
        have HE2 : Hid (assE xs rs = if money M = false then 6 else 0) := by unfold Hid; rw [HE.out, ha.out, ← hM.out]; rfl
        cases e1 : money M with
        | false =>
          have HE1 : Hid (assE xs rs = 6) := by unfold Hid; rw [HE2.out, e1]; rfl
          have HN1 : Hid (assN xs rs = 0) := by unfold Hid assN; rw [HE1.out]; rfl
          rw [e1] at M1
          clear e1 HE2
          go_wp2_with (go_at_call 65; refine (M1 _).mono ?_; rintro e w' ⟨rfl, rfl⟩)
          go_ret2
          exact ⟨by rw [HE1.out, HN1.out]; rfl, hb⟩
        | true =>
          have HE1 : Hid (assE xs rs = 0) := by unfold Hid; rw [HE2.out, e1]; rfl
          have HN1 : Hid (assN xs rs = M) := by unfold Hid assN; rw [HE1.out, if_pos rfl, ← hM.out]
          rw [e1] at M1
          clear e1 HE2
          go_wp2_with (go_at_call 65; refine (M1 _).mono ?_; rintro e w' ⟨rfl, rfl⟩)
          go_ret2
          exact ⟨by rw [HE1.out, HN1.out]; rfl, hb⟩
  · have HE : Hid (assE xs rs = 1) := by unfold Hid assE; rw [if_pos (by omega)]
    have HN : Hid (assN xs rs = 0) := by unfold Hid assN; rw [HE.out]; rfl
    have t1 : ((rs.length : Int) != (xs.length : Int)) = true := by simp; omega
    clear hlen
    go_wp2
    go_ret2
    exact ⟨by rw [HE.out, HN.out]; rfl, Below.refl _ _⟩
end Go.Proofs.Ytdcfojohgcmpcaa
end
section
/- The calls of chapter 24, in a body's own memory; law24.wakes. -/
namespace Go.Sl
open Go Go.RowKit
/-- A pair that is put among others. -/
theorem addE_new {l : List SPair} (g : GoodP l) {s b : ByteArray} {n : Int} (h1 : noS s = false) (h2 : noS b = false) (h3 : s ≠ b) (h4 : 0 ≤ hasP l s b + n ∧ hasP l s b + n ≤ 100000000000) (h6 : -100000000000 ≤ n ∧ n ≤ 100000000000) {q : List SPair} (hq : (if hasP l s b + n = 0 then del pkey (s, b) l else put ordStr2 pkey ⟨s, b, hasP l s b + n⟩ l) = q) (h5 : q.length ≤ 8) :
    addE l s b n = 0 ∧ addW l s b n = q := by
  have hp := nextP_put g.rise s b (hasP l s b + n)
  rw [hq] at hp
  have hl := isort_length (nextP_dist g.rise s b (hasP l s b + n))
  rw [hp] at hl
  have m1 : money n = true := by simp [money]; omega
  have m2 : money (hasP l s b + n) = true := by simp [money]; omega
  have hE : addE l s b n = 0 := by
    unfold addE
    rw [if_neg (by simp [h1, h2, h3, m1]), if_neg (by simp [m2]; omega), if_neg (by omega)]
  exact ⟨hE, by unfold addW; rw [if_pos hE, hp]⟩
theorem addE_over {l : List SPair} {s b : ByteArray} {n : Int} (h1 : noS s = false) (h2 : noS b = false) (h3 : s ≠ b) (h6 : -100000000000 ≤ n ∧ n ≤ 100000000000) (h4 : hasP l s b + n < 0) : addE l s b n = 6 ∧ addW l s b n = l := by
  have m1 : money n = true := by simp [money]; omega
  have hE : addE l s b n = 6 := by
    unfold addE
    rw [if_neg (by simp [h1, h2, h3, m1]), if_pos (by simp [h4])]
  exact ⟨hE, by unfold addW; rw [if_neg (by omega)]⟩
theorem addE_arg {l : List SPair} {s b : ByteArray} {n : Int} (h : noS s = true ∨ noS b = true ∨ s = b) : addE l s b n = 1 ∧ addW l s b n = l := by
  have hE : addE l s b n = 1 := by
    unfold addE
    rw [if_pos (by rcases h with h | h | h <;> simp [h])]
  exact ⟨hE, by unfold addW; rw [if_neg (by omega)]⟩
theorem noS_mk (a : Array UInt8) : noS ⟨a⟩ = a.toList.isEmpty := by unfold noS; rw [tl_data]
end Go.Sl
namespace Go.Proofs.Ytdcfojohgcmpcaa
open Go.RowKit Go.Sl
set_option maxHeartbeats 1000000
set_option maxRecDepth 100000
structure Crs (h : Hp) (b : Nat) (l : List SPair) : Prop where
  pt : Pt (kOne kPair) 122 h b l
  good : GoodP l
section
variable {w0 w : World} {l : List Hp} {h k p : Hp} {b : Nat} {xs : List SPair} {rs : List Int} {A D : Option Addr} {ca cd : Nat}
theorem Crs.new (E : Env w0 w l) : Calls Try.prog 26 #[] w fun e w' => ∃ h b, e = .returned (.pointer (some ⟨b, 0, none⟩)) ∧ Crs h b [] ∧ Env w0 w' (l ++ [h]) :=
  (crossNew_calls w).mono fun _ _ ⟨h, b, he, hp, u⟩ => ⟨h, b, he, ⟨hp, GoodP.nil⟩, E.new u⟩
theorem Crs.rows (S : Crs h b xs) (E : Env w0 w l) (i : Nat) (hi : l[i]? = some h) (n : Nat) (hn : xs.length = n) :
    Calls Try.prog 28 #[.pointer (some ⟨b, 0, none⟩)] w fun e w' => ∃ C cap h', e = .returned (.slice C n cap) ∧ Ow kPair h' C cap xs ∧ Env w0 w' (l ++ [h']) := by
  subst hn
  exact (crossRows_calls b xs h w (E.sub i hi) S.pt (by have := S.good.len; omega)).mono fun _ _ ⟨C, cap, h', he, ho, u⟩ => ⟨C, cap, h', he, ho, E.new u⟩
theorem Crs.add (S : Crs h b xs) (E : Env w0 w l) (i : Nat) (hi : l[i]? = some h) (s bb : ByteArray) (n : Int) {q : Int} {ys : List SPair} (hE : addE xs s bb n = q ∧ addW xs s bb n = ys) :
    Calls Try.prog 27 #[.pointer (some ⟨b, 0, none⟩), .string s, .string bb, .int .i64 n] w fun e w' => ∃ h', e = .returned (.int .i64 q) ∧ Crs h' b ys ∧ Env w0 w' (l.set i h') := by
  obtain ⟨h1, h2⟩ := hE
  subst h1
  subst h2
  exact (crossAdd_calls b xs s bb n h w (E.sub i hi) S.pt S.good).mono fun _ _ ⟨h', he, hp, u⟩ => ⟨h', he, ⟨hp, S.good.add s bb n⟩, E.upd i hi u⟩
theorem Crs.asset (E : Env w0 w l) (sx : Sl kPair k A ca xs) (ks : k.sub w) (so : Sl kInt p D cd rs) (ps : p.sub w) (hx : xs.length ≤ 1000) (n m : Nat) (hn : xs.length = n) (hm : rs.length = m) {N Er : Int} (hN : assN xs rs = N) (hE : assE xs rs = Er) :
    Calls Try.prog 16 #[.slice A n ca, .slice D m cd] w fun e w' => e = .returned (.tuple #[.int .i64 N, .int .i64 Er]) ∧ Env w0 w' l := by
  subst hn hm hN hE
  exact (asset_calls A D ca cd xs rs k p w ks ps sx so hx).mono fun _ _ ⟨he, b⟩ => ⟨he, E.below b⟩
end
theorem wakes24 (w : World) : Calls Try.prog 17 #[] w fun e w' => e = .returned (.bool true) ∧ Below w.heap.size w w' := by
  have E0 := Env.start w
  have H1 := Lib.hid (addE_new (s := ⟨#[97]⟩) (b := ⟨#[98]⟩) (n := 100) GoodP.nil (by rw [noS_mk]; rfl) (by rw [noS_mk]; rfl) (by decide) (by decide) (by decide) (q := [⟨⟨#[97]⟩, ⟨#[98]⟩, 100⟩]) (by rfl) (by decide))
  have H2 : Hid (assN [⟨⟨#[97]⟩, ⟨#[98]⟩, 100⟩] [250000] = 25) := by unfold Hid; decide
  have H3 : Hid (assE [⟨⟨#[97]⟩, ⟨#[98]⟩, 100⟩] [250000] = 0) := by unfold Hid; decide
  go_enter Try.func17, Try.ntmps17
  go_wp2_with fail
  refine (Crs.new E0).mono ?_
  rintro e w1 ⟨h1, c, rfl, S1, E1⟩
  try simp at E1
  go_wp2_with fail
  refine (Crs.rows S1 E1 0 rfl 0 rfl).mono ?_
  rintro e w2 ⟨C2, n2, h2, rfl, o2, E2⟩
  try simp at E2
  go_wp2_with fail
  refine (Crs.add S1 E2 0 rfl _ _ _ H1.out).mono ?_
  rintro e w3 ⟨h3, rfl, S3, E3⟩
  try simp at E3
  go_wp2_with fail
  refine (Crs.rows S3 E3 0 rfl 1 rfl).mono ?_
  rintro e w4 ⟨C4, n4, h4, rfl, o4, E4⟩
  try simp at E4
  go_wp2_with fail
  have E5 := E4.alloc (.cells #[.int .i64 250000] 3)
  simp at E5
  refine (Crs.asset E5 o4.sl (E5.sub 2 rfl) (Sl.litInt (xs := [250000]) (Hp.one_self _ _) rfl (by unfold maxLen; simp)) (E5.sub 3 rfl) (by simp) 1 1 rfl rfl H2.out H3.out).mono ?_
  rintro e w6 ⟨rfl, E6⟩
  go_wp2
  go_ret
  exact ⟨rfl, E6.low⟩
end Go.Proofs.Ytdcfojohgcmpcaa
end
section
/- The walk of ref01.Money. -/
namespace Go.Proofs.Ytdcfojohgcmpcaa
open Go.RowKit Go.Sl
set_option maxHeartbeats 400000
theorem refMoney_calls (n : Int) (w : World) : Calls Try.prog 84 #[.int .i64 n] w fun e w' => e = .returned (.bool (money n)) ∧ w = w' := by
  go_enter Try.func84, Try.ntmps84
  go_wp2
  all_goals
    go_ret
    exact ⟨by simp [money]; omega, rfl⟩
end Go.Proofs.Ytdcfojohgcmpcaa
end
section
/- Registers of temporary differences, plain. No program is named here. -/
namespace Go.Sl
def rkey (x : STri) : Int × Int := (x.a, x.b)
abbrev RisingR (l : List STri) : Prop := Rising ordPair rkey l
def getB (l : List STri) (c y : Int) : Int := match find rkey (c, y) l with | some b => b.c | none => 0
def sumC (l : List STri) : Int := (l.map (·.c)).sum
def setB (l : List STri) (c y n : Int) : List STri := if n = 0 then del rkey (c, y) l else put ordPair rkey ⟨c, y, n⟩ l
theorem setGo_setB {l : List STri} (h : RisingR l) (c y n : Int) : setGo ordPair rkey ⟨c, y, n⟩ (decide (n = 0)) l = setB l c y n := by
  unfold setB
  by_cases h0 : n = 0
  · rw [if_pos h0, decide_eq_true h0, setGo_true]; rfl
  · rw [if_neg h0, decide_eq_false h0, setGo_false _ _ _ _ h]
def bucketOk (c y : Int) : Bool := decide (1 ≤ c ∧ c ≤ 9 ∧ 0 ≤ y ∧ y ≤ 99)
def moveE (l : List STri) (c y n : Int) : Int :=
  if (bucketOk c y && money n) = false then 1
  else if (money (getB l c y + n) && money (sumC l + n)) = false then 6
  else if 12 < (setB l c y (getB l c y + n)).length then 5 else 0
def moveR (l : List STri) (c y n : Int) : List STri := if moveE l c y n = 0 then setB l c y (getB l c y + n) else l
def reclE (l : List STri) (c y c2 y2 n : Int) : Int :=
  if (bucketOk c y && (bucketOk c2 y2 && (money n && !decide (c = c2 ∧ y = y2)))) = false then 1
  else if (money (getB l c y - n) && money (getB l c2 y2 + n)) = false then 6
  else if 12 < (setB (setB l c y (getB l c y - n)) c2 y2 (getB l c2 y2 + n)).length then 5 else 0
def reclR (l : List STri) (c y c2 y2 n : Int) : List STri := if reclE l c y c2 y2 n = 0 then setB (setB l c y (getB l c y - n)) c2 y2 (getB l c2 y2 + n) else l
/-- What holds of all registers. -/
structure GoodR (l : List STri) : Prop where
  rise : RisingR l
  nz : ∀ b ∈ l, b.c ≠ 0
  mon : ∀ b ∈ l, money b.c = true
  rng : ∀ b ∈ l, bucketOk b.a b.b = true
  len : l.length ≤ 12
theorem GoodR.nil : GoodR [] := ⟨List.Pairwise.nil, by simp, by simp, by simp, by simp⟩
theorem rising_setB {l : List STri} (h : RisingR l) (c y n : Int) : RisingR (setB l c y n) := by
  unfold setB; split
  · exact h.del _ _ _
  · exact h.put _ _ _
theorem mem_setB {l : List STri} {c y n : Int} {x : STri} : x ∈ setB l c y n ↔ (n ≠ 0 ∧ x = ⟨c, y, n⟩) ∨ x ∈ l ∧ rkey x ≠ (c, y) := by
  unfold setB
  split
  · rename_i h; simp [h, mem_del]
  · rename_i h; simp [h, mem_put, rkey]
theorem getB_setB {l : List STri} (h : RisingR l) (c y n c' y' : Int) : getB (setB l c y n) c' y' = if c' = c ∧ y' = y then n else getB l c' y' := by
  unfold setB getB
  by_cases h0 : n = 0
  · rw [if_pos h0, find_del (o := ordPair) _ h]
    by_cases e : (c', y') = (c, y)
    · rw [if_pos e, if_pos (by simpa using e)]; exact h0.symm
    · rw [if_neg e, if_neg (by simpa using e)]
  · rw [if_neg h0, find_put _ h]
    by_cases e : (c', y') = (c, y)
    · rw [if_pos (by simpa [rkey] using e), if_pos (by simpa using e)]
    · rw [if_neg (by simpa [rkey] using e), if_neg (by simpa using e)]
theorem sumC_setB {l : List STri} (h : RisingR l) (c y n : Int) : sumC (setB l c y n) = sumC l - getB l c y + n := by
  have e := sum_del (o := ordPair) (fun b : STri => b.c) (c, y) h
  have e : (l.map (·.c)).sum = ((del rkey (c, y) l).map (·.c)).sum + getB l c y := by
    rw [e]; unfold getB; cases find rkey (c, y) l <;> rfl
  unfold setB sumC
  split
  · rename_i h0; subst h0
    omega
  · rw [sum_put (fun b : STri => b.c) _ h]
    show ((del rkey (c, y) l).map (·.c)).sum + n = _
    omega
theorem len_setB {l : List STri} (h : RisingR l) (c y n : Int) : (setB l c y n).length ≤ l.length + 1 := by
  unfold setB
  split
  · have := del_le (key := rkey) (c, y) l; omega
  · rw [len_put _ h]; have := del_le (key := rkey) (rkey ⟨c, y, n⟩) l; omega
theorem GoodR.setB {l : List STri} (g : GoodR l) {c y n : Int} (hb : bucketOk c y = true) (hn : money n = true) (hl : (setB l c y n).length ≤ 12) : GoodR (setB l c y n) :=
  by
  refine ⟨rising_setB g.rise c y n, fun b hb' => ?_, fun b hb' => ?_, fun b hb' => ?_, hl⟩
  all_goals rcases mem_setB.1 hb' with ⟨h0, rfl⟩ | ⟨h, _⟩
  · exact h0
  · exact g.nz b h
  · exact hn
  · exact g.mon b h
  · exact hb
  · exact g.rng b h
theorem moveE_ok {l : List STri} {c y n : Int} (h : moveE l c y n = 0) : bucketOk c y = true ∧ money n = true ∧ money (getB l c y + n) = true ∧ money (sumC l + n) = true ∧ (Go.Sl.setB l c y (getB l c y + n)).length ≤ 12 := by
  unfold moveE at h
  split at h
  · cases h
  · split at h
    · cases h
    · split at h
      · cases h
      · rename_i h1 h2 h3
        simp at h1 h2
        exact ⟨h1.1, h1.2, h2.1, h2.2, by omega⟩
theorem GoodR.move {l : List STri} (g : GoodR l) (c y n : Int) : GoodR (moveR l c y n) := by
  unfold moveR
  split
  · rename_i h
    obtain ⟨h1, _, h3, _, h5⟩ := moveE_ok h
    exact g.setB h1 h3 h5
  · exact g
theorem reclE_ok {l : List STri} {c y c2 y2 n : Int} (h : reclE l c y c2 y2 n = 0) : bucketOk c y = true ∧ bucketOk c2 y2 = true ∧ money n = true ∧ ¬(c = c2 ∧ y = y2) ∧ money (getB l c y - n) = true ∧ money (getB l c2 y2 + n) = true ∧ (Go.Sl.setB (Go.Sl.setB l c y (getB l c y - n)) c2 y2 (getB l c2 y2 + n)).length ≤ 12 := by
  unfold reclE at h
  split at h
  · cases h
  · split at h
    · cases h
    · split at h
      · cases h
      · rename_i h1 h2 h3
        simp at h1 h2
        exact ⟨h1.1, h1.2.1, h1.2.2.1, by simpa using h1.2.2.2, h2.1, h2.2, by omega⟩
theorem mem_len {l : List STri} (h : ∀ b ∈ l, money b.c = true) : ∀ b ∈ l, -100000000000 ≤ b.c ∧ b.c ≤ 100000000000 := fun b hb => by have := h b hb; simpa [money] using this
theorem sumC_bd {m : Int} (hm : 0 ≤ m) : ∀ l : List STri, (∀ b ∈ l, -m ≤ b.c ∧ b.c ≤ m) → -(l.length * m) ≤ sumC l ∧ sumC l ≤ l.length * m
  | [], _ => by simp [sumC]
  | b :: l, h => by
    have h1 := sumC_bd hm l fun x hx => h x (by simp [hx])
    have h2 := h b (by simp)
    have e : sumC (b :: l) = b.c + sumC l := by simp [sumC]
    rw [e]
    simp only [List.length_cons, Int.natCast_add, Int.add_mul, Int.natCast_one, Int.one_mul]
    omega
theorem GoodR.sum {l : List STri} (g : GoodR l) : -1200000000000 ≤ sumC l ∧ sumC l ≤ 1200000000000 := by
  have h := sumC_bd (m := 100000000000) (by omega) l (mem_len g.mon)
  have := g.len
  omega
theorem GoodR.get {l : List STri} (g : GoodR l) (c y : Int) : -100000000000 ≤ getB l c y ∧ getB l c y ≤ 100000000000 := by
  unfold getB
  split
  · rename_i b hb; exact mem_len g.mon b (find_some hb).1
  · omega
/-- A register out of numbers. -/
def regStep (l : List STri) (z : Int) : List STri := moveR l (1 + within z 3) (within (z.tdiv 3) 5) (amount (z.tdiv 15))
def regOf (zs : List Int) : List STri := (zs.take 10).foldl regStep []
theorem GoodR.foldl : ∀ (zs : List Int) (l : List STri), GoodR l → GoodR (zs.foldl regStep l)
  | [], _, g => g
  | _ :: zs, _, g => GoodR.foldl zs _ (g.move _ _ _)
theorem regOf_good (zs : List Int) : GoodR (regOf zs) := GoodR.foldl _ _ .nil
end Go.Sl
end
section
/- Plain facts of lists and registers, a register's own struct. No program is named here. -/
namespace Go.Sl
open Go Go.RowKit
theorem find_hit {κ α : Type} [DecidableEq κ] {key : α → κ} {k : κ} {l : List α} {j : Nat} {x : α} (h : ∀ y ∈ l.take j, key y ≠ k) (hx : l[j]? = some x) (hk : key x = k) : find key k l = some x := by
  have hj := List.getElem?_eq_some_iff.1 hx
  have e : l = l.take j ++ x :: l.drop (j + 1) := by
    have := List.take_append_drop j l
    rw [List.drop_eq_getElem_cons hj.1, hj.2] at this; exact this.symm
  unfold find
  rw [e, List.find?_append]
  have h2 : (l.take j).find? (fun y => decide (key y = k)) = none := by
    rw [List.find?_eq_none]; intro y hy; simpa using h y hy
  rw [h2]; simp [hk]
theorem find_miss {κ α : Type} [DecidableEq κ] {key : α → κ} {k : κ} {l : List α} (h : ∀ y ∈ l, key y ≠ k) : find key k l = none := by
  unfold find; rw [List.find?_eq_none]; intro y hy; simpa using h y hy
theorem drop_next {α : Type} {xs : List α} {i : Nat} {x : α} (h : Hid (xs[i]? = some x)) : xs.drop i = x :: xs.drop (i + 1) := by
  have h2 := List.getElem?_eq_some_iff.1 h.out
  rw [List.drop_eq_getElem_cons h2.1, h2.2]
/-- A register's own struct. -/
def kReg : Kd (List STri) where
  size := 1
  K h l cs := ∃ A cap, cs = [.slice A l.length cap] ∧ Ow kTri h A cap l
  pos := by decide
  len := by rintro h x cs ⟨A, cap, rfl, _⟩; rfl
  one := by rintro h x cs ⟨A, cap, rfl, _⟩ u hu; simp at hu; subst hu; rfl
  mono := by rintro h h' x cs ⟨A, cap, e, s⟩ l; exact ⟨A, cap, e, s.mono l⟩
theorem Pt.reg {T : TypeId} {h : Hp} {b : Nat} {l : List STri} {w : World} (p : Pt kReg T h b l) (s : h.sub w) : ∃ A ca, w.cell? ⟨b, 0, none⟩ = some (.slice A l.length ca) ∧ Sl kTri h A ca l := by
  obtain ⟨cs, hb, A, ca, rfl, ow⟩ := p
  exact ⟨A, ca, by rw [cell_of_row w b 0 _ _ _ (s b _ hb)]; rfl, ow.sl.mono (Hp.del_le _ _)⟩
theorem sumC_snoc (l : List STri) (x : STri) : sumC (l ++ [x]) = sumC l + x.c := by simp [sumC]
end Go.Sl
end
section
/- What the type table says of api.Bucket. -/
namespace Go.Proofs.Ytdcfojohgcmpcaa
open Go.RowKit Go.Sl
set_option maxHeartbeats 1000000
set_option maxRecDepth 100000
theorem info_bucket : Info Try.prog 81 (.agg #[.int .i64 0, .int .i64 0, .int .i64 0]) 3 24 := by unfold Info; kernel_rfl
end Go.Proofs.Ytdcfojohgcmpcaa
end
section
/- The walks of the reference's register: Get, Total, set. -/
namespace Go.Proofs.Ytdcfojohgcmpcaa
open Go.RowKit Go.Sl
set_option maxHeartbeats 1000000
set_option maxRecDepth 100000
theorem refGet_calls (p : Nat) (A : Option Addr) (ca : Nat) (l : List STri) (c y : Int) (h : Hp) (w : World) (hs : h.sub w) (hc : w.cell? ⟨p, 0, none⟩ = some (.slice A l.length ca)) (sx : Sl kTri h A ca l) :
    Calls Try.prog 47 #[.pointer (some ⟨p, 0, none⟩), .int .i64 c, .int .i64 y] w fun e w' => e = .returned (.int .i64 (getB l c y)) ∧ Below w.heap.size w w' := by
  have m1 := sx.small
  go_enter Try.func47, Try.ntmps47
  go_wp2
  go_loopw [14] (fun i wr => ∃ (j : Nat), j ≤ l.length ∧ i = .int .i64 j ∧ Hid (∀ z ∈ l.take j, rkey z ≠ (c, y)) ∧ Below w.heap.size w wr) (fun i _ => l.length - (intOf i).toNat)
  case atStart => exact ⟨0, by omega, rfl, by unfold Hid; simp, Below.refl _ _⟩
  case round =>
    obtain ⟨j, hj, rfl, hn, hb⟩ := hrel
    by_cases hlt : j < l.length
    · obtain ⟨x, hx⟩ := some_of_lt hlt
      obtain ⟨b1, o1, rfl, c1, c2, c3⟩ := sx.tri (hs.of_below hb) hx
      have i1 : (0 : Int) ≤ (j : Int) := by omega
      have i2 : (j : Int) < (l.length : Int) := by omega
      have HN : rkey x ≠ (c, y) → Hid (∀ z ∈ l.take (j + 1), rkey z ≠ (c, y)) := fun h z hz => by
        rw [take_next hx] at hz
        rcases List.mem_append.1 hz with hz | hz
        · exact hn.out z hz
        · simp at hz; rw [hz]; exact h
      by_cases ha : x.a = c
      · by_cases hbb : x.b = y
        · have HF : Hid (getB l c y = x.c) := by
            unfold Hid getB; rw [find_hit hn.out hx.out (by simp [rkey, ha, hbb])]
          have t1 : (x.a == c) = true := by simpa using ha
          have t2 : (x.b == y) = true := by simpa using hbb
          clear ha hbb HN
          go_wp2
          go_ret
          exact ⟨by rw [HF.out]; rfl, hb.alloc hb.size _⟩
        · have HN' := HN (by simp [rkey, hbb])
          have t1 : (x.a == c) = true := by simpa using ha
          have t2 : (x.b == y) = false := by simpa using hbb
          clear ha hbb HN
          go_wp2
          go_roundw
          case rel => exact ⟨j + 1, by omega, by go_num, HN', hb.alloc hb.size _⟩
          case measure => simp [intOf]; omega
      · have HN' := HN (by simp [rkey, ha])
        have t1 : (x.a == c) = false := by simpa using ha
        clear ha HN
        go_wp2
        go_roundw
        case rel => exact ⟨j + 1, by omega, by go_num, HN', hb.alloc hb.size _⟩
        case measure => simp [intOf]; omega
    · have HF : Hid (getB l c y = 0) := by
        unfold Hid getB; rw [find_miss fun z hz => hn.out z (by rw [List.take_of_length_le (by omega)]; exact hz)]
      go_wp2
      go_ret
      exact ⟨by rw [HF.out]; rfl, hb⟩
theorem refTotal_calls (p : Nat) (A : Option Addr) (ca : Nat) (l : List STri) (h : Hp) (w : World) (hs : h.sub w) (hc : w.cell? ⟨p, 0, none⟩ = some (.slice A l.length ca)) (sx : Sl kTri h A ca l) (hl : l.length ≤ 1000) (hm : ∀ b ∈ l, -100000000000 ≤ b.c ∧ b.c ≤ 100000000000) :
    Calls Try.prog 46 #[.pointer (some ⟨p, 0, none⟩)] w fun e w' => e = .returned (.int .i64 (sumC l)) ∧ Below w.heap.size w w' := by
  have m1 := sx.small
  have HM := Lib.hid hm
  clear hm
  go_enter Try.func46, Try.ntmps46
  go_wp2
  go_loopw [3, 11] (fun s i wr => ∃ (j : Nat), j ≤ l.length ∧ i = .int .i64 j ∧ s = .int .i64 (sumC (l.take j)) ∧ Below w.heap.size w wr) (fun _ i _ => l.length - (intOf i).toNat)
  case atStart => exact ⟨0, by omega, rfl, rfl, Below.refl _ _⟩
  case round =>
    obtain ⟨j, hj, rfl, rfl, hb⟩ := hrel
    by_cases hlt : j < l.length
    · obtain ⟨x, hx⟩ := some_of_lt hlt
      obtain ⟨b1, o1, rfl, c1, c2, c3⟩ := sx.tri (hs.of_below hb) hx
      have i1 : (0 : Int) ≤ (j : Int) := by omega
      have i2 : (j : Int) < (l.length : Int) := by omega
      have q1 := HM.out x (List.mem_of_getElem? hx.out)
      have q2 := sumC_bd (m := 100000000000) (by omega) (l.take j) fun b hb => HM.out b (List.mem_of_mem_take hb)
      rw [List.length_take] at q2
      obtain ⟨q3, q4⟩ : -1000000000000000 ≤ sumC (l.take j) ∧ sumC (l.take j) ≤ 1000000000000000 := by omega
      clear q2
      have HT : Hid (sumC (l.take (j + 1)) = sumC (l.take j) + x.c) := by unfold Hid; rw [take_next hx, sumC_snoc]
      go_wp2
      go_roundw
      case rel => exact ⟨j + 1, by omega, by go_num, by rw [HT.out], hb.alloc hb.size _⟩
      case measure => simp [intOf]; omega
    · obtain rfl : j = l.length := by omega
      rw [List.take_length]
      go_wp2
      go_ret
      exact ⟨rfl, hb⟩
theorem refBucket_calls (c y : Int) (w : World) : Calls Try.prog 93 #[.int .i64 c, .int .i64 y] w fun e w' => e = .returned (.bool (bucketOk c y)) ∧ w = w' := by
  have Y : ∀ (y : Int) (w : World), Calls Try.prog 120 #[.int .i64 y] w fun e w' => e = .returned (.bool (decide (0 ≤ y ∧ y ≤ 99))) ∧ w = w' := fun y w => by
    go_enter Try.func120, Try.ntmps120
    go_wp2
    all_goals
      go_ret
      exact ⟨by simp; omega, rfl⟩
  have HB : ∀ b : Bool, b = decide (0 ≤ y ∧ y ≤ 99) → Hid (bucketOk c y = (decide (1 ≤ c ∧ c ≤ 9) && b)) := fun b hb => by
    unfold Hid bucketOk; rw [hb, Bool.eq_iff_iff]; simp; omega
  have YC := Y y
  generalize hq : decide (0 ≤ y ∧ y ≤ 99) = q at *
  have HB' := HB q rfl
  clear HB hq Y
  go_enter Try.func93, Try.ntmps93
  go_wp2_with (go_at_call 120; refine (YC _).mono ?_; rintro e w' ⟨rfl, rfl⟩)
  all_goals
    go_ret
    exact ⟨by rw [HB'.out]; simp; omega, rfl⟩
end Go.Proofs.Ytdcfojohgcmpcaa
end
section
/- The walks of ref01.Right, ref01.Part. -/
namespace Go.Proofs.Ytdcfojohgcmpcaa
open Go.RowKit Go.Sl
set_option maxHeartbeats 2000000
set_option maxRecDepth 100000
theorem refRight_calls (r : Int) (w : World) : Calls Try.prog 114 #[.int .i64 r] w fun e w' => e = .returned (.bool (rightRate r)) ∧ w = w' := by
  go_enter Try.func114, Try.ntmps114
  go_wp2
  all_goals
    go_ret
    exact ⟨by simp [rightRate]; omega, rfl⟩
theorem refPart_calls (n r : Int) (w : World) : Calls Try.prog 75 #[.int .i64 n, .int .i64 r] w fun e w' => e = .returned (.int .i64 (ofVal n r)) ∧ w = w' := by
  go_enter Try.func75, Try.ntmps75
  go_wp2_with (go_at_call 111; refine (refOf_calls n r _).mono ?_; rintro e w' ⟨rfl, rfl⟩)
  go_ret
  exact ⟨rfl, rfl⟩
end Go.Proofs.Ytdcfojohgcmpcaa
end
section
/- '==' and '!=' of structs as one Bool. No program is named here. -/
namespace Go.Sl
open Go Go.RowKit
section
variable {P : Program} {d : Nat} {xs ys : Array Value} {f : Field} {fs : List Field} {a b : Value} {r s : Bool} {w : World}

theorem eqFields_nil : (Op.eqFields d xs ys []).run P w = .ok true w := by simp [Op.eqFields]
theorem eqFields_cons (hn : (f.name == "_") = false) (ha : (Go.part f.type xs f.offset).run P w = .ok a w) (hb : (Go.part f.type ys f.offset).run P w = .ok b w)
    (he : (Op.equalIn d f.type a b).run P w = .ok r w) (hr : (Op.eqFields d xs ys fs).run P w = .ok s w) : (Op.eqFields d xs ys (f :: fs)).run P w = .ok (r && s) w := by
  have hn' : f.name ≠ "_" := by simpa using hn
  rw [Op.eqFields]
  simp only [if_pos hn', Sem.run_bind, ha, hb, he, Result.andThen_ok]
  cases r
  · simp
  · simpa using hr
theorem equalIn_struct {t : TypeId} {fs : Array Field} (hu : P.underlying t = some (.struct fs)) (hp : P.stoodInHeld t = false)
    (h : (Op.eqFields d xs ys fs.toList).run P w = .ok r w) : (Op.equalIn (d + 1) t (.agg xs) (.agg ys)).run P w = .ok r w := by
  have hf : P.fieldsOf t = fs := by simp [Program.fieldsOf, hu]
  rw [run_equalIn_struct (P := P) w d t xs ys (by rw [hf]; exact hu) hp, hf]
  exact h
theorem neq_struct {t : TypeId} (h : (Op.equalIn 10000 t (.agg xs) (.agg ys)).run P w = .ok r w) : (binOp .neq t (.agg xs) (.agg ys)).run P w = .ok (.bool (!r)) w := by
  rw [run_neq_struct, h]; rfl
theorem eql_struct {t : TypeId} (h : (Op.equalIn 10000 t (.agg xs) (.agg ys)).run P w = .ok r w) : (binOp .eql t (.agg xs) (.agg ys)).run P w = .ok (.bool r) w := by
  rw [run_eql_struct, h]; rfl
end
end Go.Sl
end
section
/- The walk of play.Rate. -/
namespace Go.Sl
open Go Go.RowKit
def rateTab : List Int := [250000, 300000, 190000, 0, 1000000, 333333, 500000, 1, 125000, 999999]
def rateOf (n : Int) : Int := if n.tmod 29 = 28 then n else rateTab.getD (within n 10).toNat 0
def rateCells : Array Value := #[.int .i64 250000, .int .i64 300000, .int .i64 190000, .int .i64 0, .int .i64 1000000, .int .i64 333333, .int .i64 500000, .int .i64 1, .int .i64 125000, .int .i64 999999]
theorem rateCells_get : ∀ k : Nat, k < 10 → rateCells[k]? = some (.int .i64 (rateTab.getD k 0))
  | 0, _ => rfl | 1, _ => rfl | 2, _ => rfl | 3, _ => rfl | 4, _ => rfl | 5, _ => rfl | 6, _ => rfl | 7, _ => rfl | 8, _ => rfl | 9, _ => rfl
  | k + 10, h => by omega
end Go.Sl
namespace Go.Proofs.Ytdcfojohgcmpcaa
open Go.RowKit Go.Sl
set_option maxHeartbeats 1000000
set_option maxRecDepth 100000
theorem info_int : Info Try.prog 3 (.int .i64 0) 1 8 := by unfold Info; kernel_rfl
theorem playRate_calls (n : Int) (w : World) : Calls Try.prog 33 #[.int .i64 n] w fun e w' => e = .returned (.int .i64 (rateOf n)) ∧ Below w.heap.size w w' := by
  by_cases h : n.tmod 29 = 28
  · have HR : Hid (rateOf n = n) := by unfold Hid rateOf; rw [if_pos h]
    have t1 : (n.tmod 29 == 28) = true := by simpa using h
    clear h
    go_enter Try.func33, Try.ntmps33
    go_wp2
    go_ret
    exact ⟨by rw [HR.out]; rfl, Below.refl _ _⟩
  · have h1 := within_lo n (n := 10) (by omega)
    have h2 := within_hi n (n := 10) (by omega)
    obtain ⟨k, hk⟩ : ∃ k : Nat, within n 10 = (k : Int) := ⟨(within n 10).toNat, by omega⟩
    have HR : Hid (rateOf n = rateTab.getD k 0) := by unfold Hid rateOf; rw [if_neg h, hk]; rfl
    have hk10 : k < 10 := by omega
    have t1 : (n.tmod 29 == 28) = false := by simpa using h
    have WC := fun W => within_calls n 10 W (by omega) (by omega)
    rw [hk] at WC
    have hc : (w.alloc (.cells rateCells 3)).cell? ⟨w.heap.size, k, none⟩ = some (.int .i64 (rateTab.getD k 0)) := by rw [cell_new rfl]; exact rateCells_get k hk10
    unfold rateCells at hc
    generalize rateTab.getD k 0 = v at *
    have i1 : (0 : Int) ≤ (k : Int) := by omega
    have i2 : (k : Int) < 10 := by omega
    clear h h1 h2 hk
    go_enter Try.func33, Try.ntmps33
    go_wp2_with fail
    refine (WC _).mono ?_
    rintro e w' ⟨rfl, rfl⟩
    go_wp2
    go_ret
    exact ⟨by rw [HR.out]; rfl, (by repeat (first | exact Below.refl _ _ | apply Below.drew | refine Below.alloc ?_ (by simp) _))⟩
end Go.Proofs.Ytdcfojohgcmpcaa
end
section
/- How great play.Amount may be. -/
namespace Go.Sl
open Go Go.RowKit Go.Sl
theorem amount_bd (n : Int) (h : -9223372036854775808 ≤ n ∧ n ≤ 9223372036854775807) : -9223372036854775808 ≤ amount n ∧ amount n ≤ 9223372036854775807 := by
  unfold amount
  have h5 := within_lo (n.tdiv 23) (n := 5) (by omega)
  have h5' := within_hi (n.tdiv 23) (n := 5) (by omega)
  have h6 := within_lo (n.tdiv 23) (n := 200000000001) (by omega)
  have h6' := within_hi (n.tdiv 23) (n := 200000000001) (by omega)
  have h7 := within_lo n (n := 4001) (by omega)
  have h7' := within_hi n (n := 4001) (by omega)
  repeat (first | split | omega)
end Go.Sl
end
