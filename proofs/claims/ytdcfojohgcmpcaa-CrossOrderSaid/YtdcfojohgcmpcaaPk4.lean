/- Walks and plain facts that the laws of this seat share, part 4: contracts of functions, each said at its theorem. -/
import Derived.Test.YtdcfojohgcmpcaaPk3
import Derived.Deep.QuietTactic
import Derived.BigQuiet
import Derived.WideKeyPair
import Derived.WideKeyEntry
import Derived.Maps.RangeRun
set_option linter.all false
section
/- The asset of pairs, plain. -/
namespace Go.Sl
open Go Go.RowKit
def assOk (x : SPair) (r : Int) : Bool := rightRate r && (!decide (x.amt < 0) && money x.amt)
def assAll : List SPair → List Int → Bool
  | b :: bs, r :: rs => assOk b r && assAll bs rs
  | _, _ => true
def assS : List SPair → List Int → Int
  | b :: bs, r :: rs => ofVal b.amt r + assS bs rs
  | _, _ => 0
def assE (bs : List SPair) (rs : List Int) : Int :=
  if rs.length ≠ bs.length then 1
  else if assAll bs rs = false then 1
  else if money (assS bs rs) = false then 6 else 0
def assN (bs : List SPair) (rs : List Int) : Int := if assE bs rs = 0 then assS bs rs else 0
theorem assS_snoc {b : SPair} {r : Int} : ∀ {bs : List SPair} {rs : List Int}, bs.length = rs.length → assS (bs ++ [b]) (rs ++ [r]) = assS bs rs + ofVal b.amt r
  | [], [], _ => by simp [assS]
  | x :: bs, y :: rs, h => by
    have := assS_snoc (b := b) (r := r) (bs := bs) (rs := rs) (by simpa using h)
    simp only [List.cons_append, assS, this]; omega
  | [], _ :: _, h => by simp at h
  | _ :: _, [], h => by simp at h
theorem assAll_snoc {b : SPair} {r : Int} : ∀ {bs : List SPair} {rs : List Int}, bs.length = rs.length → assAll (bs ++ [b]) (rs ++ [r]) = (assAll bs rs && assOk b r)
  | [], [], _ => by simp [assAll]
  | x :: bs, y :: rs, h => by
    have := assAll_snoc (b := b) (r := r) (bs := bs) (rs := rs) (by simpa using h)
    simp only [List.cons_append, assAll, this, Bool.and_assoc]
  | [], _ :: _, h => by simp at h
  | _ :: _, [], h => by simp at h
theorem assS_bd : ∀ (bs : List SPair) (rs : List Int), -(bs.length * 4000000000001) ≤ assS bs rs ∧ assS bs rs ≤ bs.length * 4000000000001
  | b :: bs, r :: rs => by
    have h1 := assS_bd bs rs
    have h2 := ofVal_bd b.amt r
    simp only [assS, List.length_cons]; omega
  | [], _ => by simp [assS]
  | _ :: _, [] => by simp only [assS, List.length_cons]; omega
theorem assAll_no {b : SPair} {r : Int} : ∀ {bs : List SPair} {rs : List Int} {j : Nat}, bs[j]? = some b → rs[j]? = some r → assOk b r = false → assAll bs rs = false
  | x :: bs, y :: rs, 0, h1, h2, h => by
    simp at h1 h2; subst h1; subst h2
    simp [assAll, h]
  | x :: bs, y :: rs, j + 1, h1, h2, h => by
    have := assAll_no (bs := bs) (rs := rs) (j := j) (by simpa using h1) (by simpa using h2) h
    simp [assAll, this]
  | [], _, _, h1, _, _ => by simp at h1
  | _ :: _, [], _, _, h2, _ => by simp at h2
end Go.Sl
end
section
/- The walk of rate.Right. -/
namespace Go.Proofs.Ytdcfojohgcmpcaa
open Go.RowKit Go.Sl
set_option maxHeartbeats 2000000
theorem rateRight_calls (r : Int) (w : World) : Calls Try.prog 64 #[.int .i64 r] w fun e w' => e = .returned (.bool (rightRate r)) ∧ w = w' := by
  go_enter Try.func64, Try.ntmps64
  go_wp2
  all_goals
    go_ret
    exact ⟨by simp [rightRate]; omega, rfl⟩
end Go.Proofs.Ytdcfojohgcmpcaa
end
section
/- The walk of cross.Asset. -/
namespace Go.Proofs.Ytdcfojohgcmpcaa
open Go.RowKit Go.Sl
set_option maxHeartbeats 2000000
set_option maxRecDepth 100000
theorem asset_calls (A D : Option Addr) (ca cd : Nat) (xs : List SPair) (rs : List Int) (h p : Hp) (w : World) (hs : h.sub w) (ps : p.sub w) (sx : Sl kPair h A ca xs) (so : Sl kInt p D cd rs) (hx : xs.length ≤ 1000) :
    Calls Try.prog 16 #[.slice A xs.length ca, .slice D rs.length cd] w fun e w' => e = .returned (.tuple #[.int .i64 (assN xs rs), .int .i64 (assE xs rs)]) ∧ Below w.heap.size w w' := by
  have m3 := so.small
  go_enter Try.func16, Try.ntmps16
  by_cases hlen : rs.length = xs.length
  · have L1 := Lib.hid hlen
    have t1 : ((rs.length : Int) != (xs.length : Int)) = false := by simp [hlen]
    have HE : Hid (assE xs rs = if assAll xs rs = false then 1 else if money (assS xs rs) = false then 6 else 0) := by
      unfold Hid assE; rw [if_neg (by omega)]
    clear hlen
    go_wp2
    go_loopw [6, 18] (fun s i wr => ∃ (j : Nat) (M : Int), j ≤ xs.length ∧ i = .int .i64 j ∧ s = .int .i64 M ∧ Hid (assAll (xs.take j) (rs.take j) = true) ∧ Hid (M = assS (xs.take j) (rs.take j)) ∧ Below w.heap.size w wr) (fun _ i _ => xs.length - (intOf i).toNat)
    case atStart => exact ⟨0, 0, by omega, rfl, rfl, rfl, rfl, Below.refl _ _⟩
    case round =>
      obtain ⟨j, M, hj, rfl, rfl, ha, hM, hb⟩ := hrel
      have hb1 := assS_bd (xs.take j) (rs.take j)
      rw [← hM.out, List.length_take] at hb1
      have HB : -4000000000001000 ≤ M ∧ M ≤ 4000000000001000 := by omega
      clear hb1
      obtain ⟨q1, q2⟩ := HB
      by_cases hlt : j < xs.length
      · obtain ⟨x, hxx⟩ := some_of_lt hlt
        obtain ⟨r, hrr⟩ := some_of_lt (show j < rs.length by rw [L1.out]; exact hlt)
        obtain ⟨b1, o1, rfl, c1, c2, c3⟩ := sx.pair (hs.of_below hb) hxx
        obtain ⟨b2, o2, rfl, d1⟩ := so.int (ps.of_below hb) hrr
        have d1a := fun o => (cell_alloc (o := o) (World.block_lt_of_cell? _ _ d1)).trans d1
        have i1 : (0 : Int) ≤ (j : Int) := by omega
        have i2 : (j : Int) < (xs.length : Int) := by omega
        have i3 : (j : Int) < (rs.length : Int) := by rw [L1.out]; omega
        obtain ⟨q3, q4⟩ := ofVal_bd x.amt r
        have hll : (xs.take j).length = (rs.take j).length := by rw [List.length_take, List.length_take, L1.out]
        have HTa : Hid (assAll (xs.take (j + 1)) (rs.take (j + 1)) = assOk x r) := by
          unfold Hid; rw [take_next hxx, take_next hrr, assAll_snoc hll, ha.out]; rfl
        have HTm : Hid (assS (xs.take (j + 1)) (rs.take (j + 1)) = M + ofVal x.amt r) := by
          unfold Hid; rw [take_next hxx, take_next hrr, assS_snoc hll, hM.out]
        clear hll
        have HNo : assOk x r = false → Hid (assE xs rs = 1) := fun h => by
          unfold Hid; rw [HE.out, if_pos (assAll_no hxx.out hrr.out h)]
        have HO := fun W => of_calls x.amt r W
        have RO := fun W => rateRight_calls r W
        have M1 := fun W => money_calls x.amt W
        have HOK : assOk x r = (rightRate r && (!decide (x.amt < 0) && money x.amt)) := rfl
        generalize ofVal x.amt r = v1 at *
        generalize assOk x r = ok at *
        cases e0 : rightRate r with
        | false =>
          have HE1 := HNo (by rw [HOK, e0]; rfl)
          have HN1 : Hid (assN xs rs = 0) := by unfold Hid assN; rw [HE1.out]; rfl
          rw [e0] at RO
          clear HNo HOK HTa HO e0
          go_wp2_with (first
            | (go_at_call 64; refine (RO _).mono ?_; rintro e w' ⟨rfl, rfl⟩)
            | (go_at_call 65; refine (M1 _).mono ?_; rintro e w' ⟨rfl, rfl⟩))
          go_ret2
          exact ⟨by rw [HE1.out, HN1.out]; rfl, hb.alloc hb.size _⟩
        | true =>
        cases e2 : decide (x.amt < 0) with
        | true =>
          have HE1 := HNo (by rw [HOK, e0, e2]; rfl)
          have HN1 : Hid (assN xs rs = 0) := by unfold Hid assN; rw [HE1.out]; rfl
          rw [e0] at RO
          clear HNo HOK HTa HO e0
          go_wp2_with (first
            | (go_at_call 64; refine (RO _).mono ?_; rintro e w' ⟨rfl, rfl⟩)
            | (go_at_call 65; refine (M1 _).mono ?_; rintro e w' ⟨rfl, rfl⟩))
          go_ret2
          exact ⟨by rw [HE1.out, HN1.out]; rfl, hb.alloc hb.size _⟩
        | false =>
        cases e1 : money x.amt with
        | false =>
          have HE1 := HNo (by rw [HOK, e0, e1, e2]; rfl)
          have HN1 : Hid (assN xs rs = 0) := by unfold Hid assN; rw [HE1.out]; rfl
          rw [e0] at RO
          rw [e1] at M1
          clear HNo HOK HTa HO e0 e1
          go_wp2_with (first
            | (go_at_call 64; refine (RO _).mono ?_; rintro e w' ⟨rfl, rfl⟩)
            | (go_at_call 65; refine (M1 _).mono ?_; rintro e w' ⟨rfl, rfl⟩))
          go_ret2
          exact ⟨by rw [HE1.out, HN1.out]; rfl, hb.alloc hb.size _⟩
        | true =>
        have hf : ok = true := by rw [HOK, e0, e1, e2]; rfl
        rw [e0] at RO
        rw [e1] at M1
        rw [hf] at HTa
        clear HNo HOK e0 e1 hf
        go_wp2_with (first
          | (go_at_call 64; refine (RO _).mono ?_; rintro e w' ⟨rfl, rfl⟩)
          | (go_at_call 65; refine (M1 _).mono ?_; rintro e w' ⟨rfl, rfl⟩))
        obtain ⟨W, hW⟩ : ∃ W : World, W = wr.alloc (.cells #[.string x.s, .string x.b, .int .i64 x.amt] 27) := ⟨_, rfl⟩
        have q0 : W.cell? ⟨wr.heap.size, 0, none⟩ = some (.string x.s) := by rw [hW]; exact cell_new rfl
        have q1 : W.cell? ⟨wr.heap.size, 1, none⟩ = some (.string x.b) := by rw [hW]; exact cell_new rfl
        have q2 : W.cell? ⟨wr.heap.size, 2, none⟩ = some (.int .i64 x.amt) := by rw [hW]; exact cell_new rfl
        have BW : Below wr.heap.size wr W := by rw [hW]; exact (Below.refl _ _).alloc (Nat.le_refl _) _
        rw [← hW]
        clear hW
        replace d1 := (BW.cell (World.block_lt_of_cell? _ _ d1)).trans d1
        have bW := hb.trans (BW.mono hb.size)
        go_quiet ((go_at_call 66; (first | exact quiet_one (HO _) | exact quiet_more (HO _))))
        go_wp2
        go_roundw
        case rel => exact ⟨j + 1, M + v1, by omega, by go_num, by go_num, HTa, HTm.symm, (by repeat (first | (with_reducible exact bW) | (with_reducible apply Below.drew) | (with_reducible apply Below.drN)))⟩
        case measure => simp [intOf]; omega
      · obtain rfl : j = xs.length := by omega
        rw [List.take_length, List.take_of_length_le (Nat.le_of_eq L1.out)] at ha hM
        have M1 := fun W => money_calls M W
        have HE2 : Hid (assE xs rs = if money M = false then 6 else 0) := by unfold Hid; rw [HE.out, ha.out, ← hM.out]; rfl
        cases e1 : money M with
        | false =>
          have HE1 : Hid (assE xs rs = 6) := by unfold Hid; rw [HE2.out, e1]; rfl
          have HN1 : Hid (assN xs rs = 0) := by unfold Hid assN; rw [HE1.out]; rfl
          rw [e1] at M1
          clear e1 HE2
          go_wp2_with (go_at_call 65; refine (M1 _).mono ?_; rintro e w' ⟨rfl, rfl⟩)
          go_ret2
          exact ⟨by rw [HE1.out, HN1.out]; rfl, hb⟩
        | true =>
          have HE1 : Hid (assE xs rs = 0) := by unfold Hid; rw [HE2.out, e1]; rfl
          have HN1 : Hid (assN xs rs = M) := by unfold Hid assN; rw [HE1.out, if_pos rfl, ← hM.out]
          rw [e1] at M1
          clear e1 HE2
          go_wp2_with (go_at_call 65; refine (M1 _).mono ?_; rintro e w' ⟨rfl, rfl⟩)
          go_ret2
          exact ⟨by rw [HE1.out, HN1.out]; rfl, hb⟩
  · have HE : Hid (assE xs rs = 1) := by unfold Hid assE; rw [if_pos (by omega)]
    have HN : Hid (assN xs rs = 0) := by unfold Hid assN; rw [HE.out]; rfl
    have t1 : ((rs.length : Int) != (xs.length : Int)) = true := by simp; omega
    clear hlen
    go_wp2
    go_ret2
    exact ⟨by rw [HE.out, HN.out]; rfl, Below.refl _ _⟩
end Go.Proofs.Ytdcfojohgcmpcaa
end
section
/- The calls of chapter 24, in a body's own memory; law24.wakes. -/
namespace Go.Sl
open Go Go.RowKit
/-- A pair that is put among others. -/
theorem addE_new {l : List SPair} (g : GoodP l) {s b : ByteArray} {n : Int} (h1 : noS s = false) (h2 : noS b = false) (h3 : s ≠ b) (h4 : 0 ≤ hasP l s b + n ∧ hasP l s b + n ≤ 100000000000) (h6 : -100000000000 ≤ n ∧ n ≤ 100000000000) {q : List SPair} (hq : (if hasP l s b + n = 0 then del pkey (s, b) l else put ordStr2 pkey ⟨s, b, hasP l s b + n⟩ l) = q) (h5 : q.length ≤ 8) :
    addE l s b n = 0 ∧ addW l s b n = q := by
  have hp := nextP_put g.rise s b (hasP l s b + n)
  rw [hq] at hp
  have hl := isort_length (nextP_dist g.rise s b (hasP l s b + n))
  rw [hp] at hl
  have m1 : money n = true := by simp [money]; omega
  have m2 : money (hasP l s b + n) = true := by simp [money]; omega
  have hE : addE l s b n = 0 := by
    unfold addE
    rw [if_neg (by simp [h1, h2, h3, m1]), if_neg (by simp [m2]; omega), if_neg (by omega)]
  exact ⟨hE, by unfold addW; rw [if_pos hE, hp]⟩
theorem addE_over {l : List SPair} {s b : ByteArray} {n : Int} (h1 : noS s = false) (h2 : noS b = false) (h3 : s ≠ b) (h6 : -100000000000 ≤ n ∧ n ≤ 100000000000) (h4 : hasP l s b + n < 0) : addE l s b n = 6 ∧ addW l s b n = l := by
  have m1 : money n = true := by simp [money]; omega
  have hE : addE l s b n = 6 := by
    unfold addE
    rw [if_neg (by simp [h1, h2, h3, m1]), if_pos (by simp [h4])]
  exact ⟨hE, by unfold addW; rw [if_neg (by omega)]⟩
theorem addE_arg {l : List SPair} {s b : ByteArray} {n : Int} (h : noS s = true ∨ noS b = true ∨ s = b) : addE l s b n = 1 ∧ addW l s b n = l := by
  have hE : addE l s b n = 1 := by
    unfold addE
    rw [if_pos (by rcases h with h | h | h <;> simp [h])]
  exact ⟨hE, by unfold addW; rw [if_neg (by omega)]⟩
theorem noS_mk (a : Array UInt8) : noS ⟨a⟩ = a.toList.isEmpty := by unfold noS; rw [tl_data]
end Go.Sl
namespace Go.Proofs.Ytdcfojohgcmpcaa
open Go.RowKit Go.Sl
set_option maxHeartbeats 1000000
set_option maxRecDepth 100000
structure Crs (h : Hp) (b : Nat) (l : List SPair) : Prop where
  pt : Pt (kOne kPair) 122 h b l
  good : GoodP l
section
variable {w0 w : World} {l : List Hp} {h k p : Hp} {b : Nat} {xs : List SPair} {rs : List Int} {A D : Option Addr} {ca cd : Nat}
theorem Crs.new (E : Env w0 w l) : Calls Try.prog 26 #[] w fun e w' => ∃ h b, e = .returned (.pointer (some ⟨b, 0, none⟩)) ∧ Crs h b [] ∧ Env w0 w' (l ++ [h]) :=
  (crossNew_calls w).mono fun _ _ ⟨h, b, he, hp, u⟩ => ⟨h, b, he, ⟨hp, GoodP.nil⟩, E.new u⟩
theorem Crs.rows (S : Crs h b xs) (E : Env w0 w l) (i : Nat) (hi : l[i]? = some h) (n : Nat) (hn : xs.length = n) :
    Calls Try.prog 28 #[.pointer (some ⟨b, 0, none⟩)] w fun e w' => ∃ C cap h', e = .returned (.slice C n cap) ∧ Ow kPair h' C cap xs ∧ Env w0 w' (l ++ [h']) := by
  subst hn
  exact (crossRows_calls b xs h w (E.sub i hi) S.pt (by have := S.good.len; omega)).mono fun _ _ ⟨C, cap, h', he, ho, u⟩ => ⟨C, cap, h', he, ho, E.new u⟩
theorem Crs.add (S : Crs h b xs) (E : Env w0 w l) (i : Nat) (hi : l[i]? = some h) (s bb : ByteArray) (n : Int) {q : Int} {ys : List SPair} (hE : addE xs s bb n = q ∧ addW xs s bb n = ys) :
    Calls Try.prog 27 #[.pointer (some ⟨b, 0, none⟩), .string s, .string bb, .int .i64 n] w fun e w' => ∃ h', e = .returned (.int .i64 q) ∧ Crs h' b ys ∧ Env w0 w' (l.set i h') := by
  obtain ⟨h1, h2⟩ := hE
  subst h1
  subst h2
  exact (crossAdd_calls b xs s bb n h w (E.sub i hi) S.pt S.good).mono fun _ _ ⟨h', he, hp, u⟩ => ⟨h', he, ⟨hp, S.good.add s bb n⟩, E.upd i hi u⟩
theorem Crs.asset (E : Env w0 w l) (sx : Sl kPair k A ca xs) (ks : k.sub w) (so : Sl kInt p D cd rs) (ps : p.sub w) (hx : xs.length ≤ 1000) (n m : Nat) (hn : xs.length = n) (hm : rs.length = m) {N Er : Int} (hN : assN xs rs = N) (hE : assE xs rs = Er) :
    Calls Try.prog 16 #[.slice A n ca, .slice D m cd] w fun e w' => e = .returned (.tuple #[.int .i64 N, .int .i64 Er]) ∧ Env w0 w' l := by
  subst hn hm hN hE
  exact (asset_calls A D ca cd xs rs k p w ks ps sx so hx).mono fun _ _ ⟨he, b⟩ => ⟨he, E.below b⟩
end
theorem wakes24 (w : World) : Calls Try.prog 17 #[] w fun e w' => e = .returned (.bool true) ∧ Below w.heap.size w w' := by
  have E0 := Env.start w
  have H1 := Lib.hid (addE_new (s := ⟨#[97]⟩) (b := ⟨#[98]⟩) (n := 100) GoodP.nil (by rw [noS_mk]; rfl) (by rw [noS_mk]; rfl) (by decide) (by decide) (by decide) (q := [⟨⟨#[97]⟩, ⟨#[98]⟩, 100⟩]) (by rfl) (by decide))
  have H2 : Hid (assN [⟨⟨#[97]⟩, ⟨#[98]⟩, 100⟩] [250000] = 25) := by unfold Hid; decide
  have H3 : Hid (assE [⟨⟨#[97]⟩, ⟨#[98]⟩, 100⟩] [250000] = 0) := by unfold Hid; decide
  go_enter Try.func17, Try.ntmps17
  go_wp2_with fail
  refine (Crs.new E0).mono ?_
  rintro e w1 ⟨h1, c, rfl, S1, E1⟩
  try simp at E1
  go_wp2_with fail
  refine (Crs.rows S1 E1 0 rfl 0 rfl).mono ?_
  rintro e w2 ⟨C2, n2, h2, rfl, o2, E2⟩
  try simp at E2
  go_wp2_with fail
  refine (Crs.add S1 E2 0 rfl _ _ _ H1.out).mono ?_
  rintro e w3 ⟨h3, rfl, S3, E3⟩
  try simp at E3
  go_wp2_with fail
  refine (Crs.rows S3 E3 0 rfl 1 rfl).mono ?_
  rintro e w4 ⟨C4, n4, h4, rfl, o4, E4⟩
  try simp at E4
  go_wp2_with fail
  have E5 := E4.alloc (.cells #[.int .i64 250000] 3)
  simp at E5
  refine (Crs.asset E5 o4.sl (E5.sub 2 rfl) (Sl.litInt (xs := [250000]) (Hp.one_self _ _) rfl (by unfold maxLen; simp)) (E5.sub 3 rfl) (by simp) 1 1 rfl rfl H2.out H3.out).mono ?_
  rintro e w6 ⟨rfl, E6⟩
  go_wp2
  go_ret
  exact ⟨rfl, E6.low⟩
end Go.Proofs.Ytdcfojohgcmpcaa
end
section
/- A map with keys of two strings in a body's own memory: its entries in the order in which they came. -/
namespace Go.Sl
open Go Go.RowKit Go.MapKept
open Go.ChangeMaps (setBlock heap_setBlock_same heap_setBlock_other)
open Go.WideElems (Fit rd_mk entry_then_store)
open Go.WideMaps (KeyLaw ArrKey)
def kvP (k : ByteArray × ByteArray) : Value := .agg #[.string k.1, .string k.2]
theorem kvP_inj {a b : ByteArray × ByteArray} (h : kvP a = kvP b) : a = b := by
  obtain ⟨a1, a2⟩ := a; obtain ⟨b1, b2⟩ := b
  simp [kvP] at h; simp [h]
def entP (r : (ByteArray × ByteArray) × Int) : Value × Value := (kvP r.1, .int .i64 r.2)
def accP (k : ByteArray × ByteArray) : List ((ByteArray × ByteArray) × Int) → Int
  | [] => 0
  | r :: l => (if r.1 = k then r.2 else 0) + accP k l
theorem accP_miss {k : ByteArray × ByteArray} : ∀ {l : List ((ByteArray × ByteArray) × Int)}, (∀ r ∈ l, r.1 ≠ k) → accP k l = 0
  | [], _ => rfl
  | r :: l, h => by
    have h1 := h r (by simp)
    have h2 := accP_miss (l := l) (fun x hx => h x (by simp [hx]))
    simp only [accP, if_neg h1, h2]; omega
theorem accP_snoc (k k' : ByteArray × ByteArray) (v : Int) : ∀ l : List ((ByteArray × ByteArray) × Int), accP k' (l ++ [(k, v)]) = accP k' l + if k = k' then v else 0
  | [] => by simp only [List.nil_append, accP]; omega
  | r :: l => by
    have h := accP_snoc k k' v l
    simp only [List.cons_append, accP, h]; omega
theorem accP_set {k' : ByteArray × ByteArray} {v : Int} : ∀ {l : List ((ByteArray × ByteArray) × Int)} {j : Nat} {r : (ByteArray × ByteArray) × Int}, l[j]? = some r → accP k' (l.set j (r.1, v)) = accP k' l + if r.1 = k' then v - r.2 else 0
  | [], j, r, h => by simp at h
  | x :: l, 0, r, h => by
    simp only [List.getElem?_cons_zero, Option.some.injEq] at h
    subst h
    simp only [List.set_cons_zero, accP]
    split <;> omega
  | x :: l, j + 1, r, h => by
    have h2 := accP_set (k' := k') (v := v) (l := l) (j := j) (r := r) (by simpa using h)
    simp only [List.set_cons_succ, accP, h2]; omega
theorem accP_at : ∀ {l : List ((ByteArray × ByteArray) × Int)} {j : Nat} {r : (ByteArray × ByteArray) × Int}, l.Pairwise (fun x y => x.1 ≠ y.1) → l[j]? = some r → accP r.1 l = r.2
  | [], j, r, _, h => by simp at h
  | x :: l, 0, r, hd, h => by
    simp only [List.getElem?_cons_zero, Option.some.injEq] at h
    subst h
    have h1 := (List.pairwise_cons.1 hd).1
    have h2 := accP_miss (k := x.1) (l := l) (fun y hy => (h1 y hy).symm)
    simp only [accP, h2]; simp
  | x :: l, j + 1, r, hd, h => by
    have h := (show l[j]? = some r by simpa using h)
    have h1 := (List.pairwise_cons.1 hd).1 r (List.mem_of_getElem? h)
    have h2 := accP_at (List.pairwise_cons.1 hd).2 h
    simp only [accP, if_neg h1, h2]; omega
def okK (k : ByteArray × ByteArray) : Prop := k.1.size ≤ maxLen ∧ k.2.size ≤ maxLen
structure EntsP (es : Array MapEntry) (clock : Nat) (l : List ((ByteArray × ByteArray) × Int)) : Prop where
  ents : es.toList.map (fun x => (x.key, x.val)) = l.map entP
  st : Stamped es clock
  ok : ∀ r ∈ l, okK r.1
section
variable {P : Program} {t kt e : TypeId} {w : World} {b : Nat} {es : Array MapEntry} {clock : Nat} {l : List ((ByteArray × ByteArray) × Int)}
theorem EntsP.size (H : EntsP es clock l) : es.size = l.length := by
  have := congrArg List.length H.ents
  simpa using this
theorem EntsP.get (H : EntsP es clock l) {j : Nat} {x : MapEntry} (h : es.toList[j]? = some x) : ∃ r, l[j]? = some r ∧ x.key = kvP r.1 ∧ x.val = .int .i64 r.2 := by
  have h1 := congrArg (fun m => m[j]?) H.ents
  simp only [List.getElem?_map, h, Option.map_some] at h1
  cases hr : l[j]? with
  | none => rw [hr] at h1; simp at h1
  | some r => rw [hr] at h1; simp [entP] at h1; exact ⟨r, rfl, h1.1, h1.2⟩
theorem EntsP.keyList (H : EntsP es clock l) : es.toList.map (·.key) = l.map fun r => kvP r.1 := by
  have h := congrArg (List.map Prod.fst) H.ents
  simpa [List.map_map, Function.comp_def, entP] using h
theorem EntsP.dist (H : EntsP es clock l) : l.Pairwise (fun x y => x.1 ≠ y.1) := by
  have h := H.st.2.2
  rw [H.keyList] at h
  exact (List.pairwise_map.1 h).imp fun h e => h (by rw [e])
theorem EntsP.miss (H : EntsP es clock l) {k : ByteArray × ByteArray} (h : ∀ x ∈ es.toList, x.key ≠ kvP k) : ∀ r ∈ l, r.1 ≠ k := fun r hr hk => by
  have h1 : kvP r.1 ∈ es.toList.map (·.key) := by rw [H.keyList]; exact List.mem_map.2 ⟨r, hr, rfl⟩
  obtain ⟨x, hx, e⟩ := List.mem_map.1 h1
  exact h x hx (by rw [e, hk])
theorem EntsP.keys (H : EntsP es clock l) (HK : ∀ k, okK k → ∃ kl, keyOf P kt (kvP k) = some kl) : ∀ x ∈ es.toList, ∃ kl, keyOf P kt x.key = some kl := fun x hx => by
  have h1 : x.key ∈ es.toList.map (·.key) := List.mem_map.2 ⟨x, hx, rfl⟩
  rw [H.keyList] at h1
  obtain ⟨r, hr, e⟩ := List.mem_map.1 h1
  obtain ⟨kl, h⟩ := HK r.1 (H.ok r hr)
  exact ⟨kl, by rw [← e]; exact h⟩
theorem EntsP.okK_acc (H : EntsP es clock l) {k : ByteArray × ByteArray} (h : accP k l ≠ 0) : okK k := by
  by_cases hk : ∃ r ∈ l, r.1 = k
  · obtain ⟨r, hr, e⟩ := hk
    rw [← e]; exact H.ok r hr
  · exact absurd (accP_miss fun r hr e => hk ⟨r, hr, e⟩) h
theorem EntsP.look (H : EntsP es clock l) (K : KeyLaw P kt) (HK : ∀ k, okK k → ∃ kl, keyOf P kt (kvP k) = some kl) (ht : P.underlying t = some (.map kt e)) (hz : (zeroValue e).run P w = .ok (.int .i64 0) w)
    (hb : w.heap[b]? = some (.map es clock)) (k : ByteArray × ByteArray) (hk : okK k) : (Instr.lookup t (.map (some b)) (kvP k) false).run P w = .ok (.int .i64 (accP k l)) w := by
  obtain ⟨kl, hkl⟩ := HK k hk
  rcases K.find w hkl es.toList (H.keys HK) with ⟨h1, h2⟩ | ⟨j, e0, h1, h2, h3⟩
  · rw [accP_miss (H.miss h2)]
    simp [Instr.lookup, run_underlying ht, MapKept.run_getObj_map hb, K.check w _ hkl, h1, hz, Result.andThen]
  · obtain ⟨r, hr, e1, e2⟩ := H.get h2
    have : r.1 = k := kvP_inj (e1 ▸ h3)
    subst this
    rw [accP_at H.dist hr]
    simp [Instr.lookup, run_underlying ht, MapKept.run_getObj_map hb, K.check w _ hkl, h1, Result.andThen, e2]
theorem EntsP.put (H : EntsP es clock l) (K : KeyLaw P kt) (HK : ∀ k, okK k → ∃ kl, keyOf P kt (kvP k) = some kl) (ht : P.underlying t = some (.map kt e))
    (hb : w.heap[b]? = some (.map es clock)) (k : ByteArray × ByteArray) (hk : okK k) (n : Int) :
    ∃ es2 clock2 l', (Instr.mapUpdate t (.map (some b)) (kvP k) (.int .i64 (accP k l + n))).run P w = .ok () (setBlock w b (.map es2 clock2)) ∧ EntsP es2 clock2 l' ∧ l'.length ≤ l.length + 1 ∧ ∀ k', accP k' l' = accP k' l + if k = k' then n else 0 := by
  obtain ⟨kl, hkl⟩ := HK k hk
  rcases K.find w hkl es.toList (H.keys HK) with ⟨h1, h2⟩ | ⟨j, e0, h1, h2, h3⟩
  · have ha := accP_miss (H.miss h2)
    refine ⟨es.push ⟨kvP k, .int .i64 (accP k l + n), clock⟩, clock + 1, l ++ [(k, accP k l + n)], ?_, ⟨?_, stamped_push H.st h2, ?_⟩, by simp, fun k' => ?_⟩
    · simp [Instr.mapUpdate, run_underlying ht, MapKept.run_getObj_map hb, K.check w false hkl, h1, MapKept.run_setObj_map _ hb, Result.andThen, setBlock]
    · simp only [Array.toList_push, List.map_append, H.ents, List.map_cons, List.map_nil, entP]
    · intro r hr
      rcases List.mem_append.1 hr with hr | hr
      · exact H.ok r hr
      · simp at hr; subst hr; exact hk
    · rw [accP_snoc, ha]; simp
  · obtain ⟨r, hr, e1, e2⟩ := H.get h2
    have : r.1 = k := kvP_inj (e1 ▸ h3)
    subst this
    have ha := accP_at H.dist hr
    have hj : es[j]? = some e0 := by simpa using h2
    have hlt : j < es.toList.length := (List.getElem?_eq_some_iff.1 h2).1
    refine ⟨es.modify j (fun e' => { e' with key := kvP r.1, val := .int .i64 (accP r.1 l + n) }), clock, l.set j (r.1, accP r.1 l + n), ?_, ⟨?_, stamped_modify H.st j _ (fun _ _ => rfl) (fun e' _ he => ?_), ?_⟩, by simp, fun k' => ?_⟩
    · simp [Instr.mapUpdate, run_underlying ht, MapKept.run_getObj_map hb, K.check w false hkl, h1, hj, h3, K.stays w hkl, MapKept.run_setObj_map _ hb, Result.andThen, setBlock]
    · rw [Array.toList_modify, ChangeMaps.modify_eq_set _ _ _ _ h2, List.map_set, H.ents, List.map_set]
      rfl
    · rw [hj] at he; cases he; exact h3.symm
    · intro x hx
      rcases List.mem_or_eq_of_mem_set hx with hx | hx
      · exact H.ok x hx
      · subst hx; exact hk
    · rw [accP_set hr, ha]
      congr 1
      split <;> omega
theorem EntsP.made (H : EntsP es clock l) (K : KeyLaw P kt) (HK : ∀ k, okK k → ∃ kl, keyOf P kt (kvP k) = some kl) (ht : P.underlying t = some (.map kt e)) (hz : ∀ u : World, (zeroValue e).run P u = .ok (.int .i64 0) u)
    (hb : w.heap[b]? = some (.map es clock)) (k : ByteArray × ByteArray) (hk : okK k) :
    ∃ v es1 clock1 l1, (Instr.mapEntry t (.map (some b)) (kvP k)).run P w = .ok v (setBlock w b (.map es1 clock1)) ∧ EntsP es1 clock1 l1 ∧ accP k l1 = accP k l := by
  obtain ⟨kl, hkl⟩ := HK k hk
  rcases K.find w hkl es.toList (H.keys HK) with ⟨h1, h2⟩ | ⟨j, e0, h1, h2, h3⟩
  · refine ⟨.tuple #[.int .i64 0, goInt clock], es.push ⟨kvP k, .int .i64 0, clock⟩, clock + 1, l ++ [(k, 0)], ?_, ⟨?_, stamped_push H.st h2, ?_⟩, ?_⟩
    · simp [Instr.mapEntry, run_underlying ht, MapKept.run_getObj_map hb, K.check w false hkl, h1, hz, MapKept.run_setObj_map _ hb, Result.andThen, setBlock]
    · simp only [Array.toList_push, List.map_append, H.ents, List.map_cons, List.map_nil, entP]
    · intro r hr
      rcases List.mem_append.1 hr with hr | hr
      · exact H.ok r hr
      · simp at hr; subst hr; exact hk
    · rw [accP_snoc]; split <;> omega
  · have hj : es[j]? = some e0 := by simpa using h2
    have hsame : es.modify j (fun e => { e with key := kvP k }) = es := by
      apply Array.ext'
      rw [Array.toList_modify, ChangeMaps.modify_eq_set _ _ _ _ h2]
      have : ({ e0 with key := kvP k } : MapEntry) = e0 := by rw [← h3]
      rw [this]
      exact WideElems.set_self _ _ _ h2
    refine ⟨.tuple #[e0.val, goInt e0.born], es, clock, l, ?_, H, rfl⟩
    simp [Instr.mapEntry, run_underlying ht, MapKept.run_getObj_map hb, K.check w false hkl, h1, hj, h3, K.stays w hkl, hsame, MapKept.run_setObj_map _ hb, Result.andThen, setBlock]
theorem EntsP.entry (H : EntsP es clock l) (K : KeyLaw P kt) (HK : ∀ k, okK k → ∃ kl, keyOf P kt (kvP k) = some kl) (ht : P.underlying t = some (.map kt e)) (hz : ∀ u : World, (zeroValue e).run P u = .ok (.int .i64 0) u)
    (hb : w.heap[b]? = some (.map es clock)) (hl : l.length ≤ 1000) (k : ByteArray × ByteArray) (hk : okK k) (n : Int) :
    ∃ v0 st w1 es2 clock2 l', (Instr.mapEntry t (.map (some b)) (kvP k)).run P w = .ok (.tuple #[v0, .int .i64 st]) w1 ∧ (Instr.entryStore t (.map (some b)) (.int .i64 st) (.int .i64 (accP k l + n))).run P w1 = .ok () (setBlock w b (.map es2 clock2)) ∧
      (Instr.lookup t (.map (some b)) (kvP k) false).run P w1 = .ok (.int .i64 (accP k l)) w1 ∧
      EntsP es2 clock2 l' ∧ l'.length ≤ l.length + 1 ∧ ∀ k', accP k' l' = accP k' l + if k = k' then n else 0 := by
  obtain ⟨kl, hkl⟩ := HK k hk
  obtain ⟨vm, esm, clockm, lm, hmade, Hm, ham⟩ := H.made K HK ht hz hb k hk
  obtain ⟨es2, clock2, l', hrun, H2, h3, h4⟩ := H.put K HK ht hb k hk n
  have F : Fit (H := Unit) P kt (fun _ => some (.lit (.bool true), [])) es clock := ⟨by rw [H.size]; unfold maxLen; omega, H.st, fun x hx => by
    obtain ⟨kx, hx⟩ := H.keys HK x hx
    exact ⟨_, rd_mk (val := x.val) (born := x.born) hx rfl⟩⟩
  obtain ⟨v0, st, es1, clock1, r1, _, r2⟩ := entry_then_store K ht hz hb F hkl
  have hs : (setBlock w b (.map es1 clock1)).heap[b]? = some (.map es1 clock1) := heap_setBlock_same hb _
  obtain ⟨es', clock', r3, r4⟩ := r2 (setBlock w b (.map es1 clock1)) (.int .i64 (accP k l + n)) hs
  rw [hrun] at r4
  have hw : setBlock w b (.map es2 clock2) = setBlock w b (.map es' clock') := by simpa using r4
  have hw1 : setBlock w b (.map esm clockm) = setBlock w b (.map es1 clock1) := (Result.ok.inj (hmade.symm.trans r1)).2
  have hlk := Hm.look K HK ht (hz _) (heap_setBlock_same hb (.map esm clockm)) k hk
  rw [hw1, ham] at hlk
  refine ⟨v0, st, _, es2, clock2, l', r1, ?_, hlk, H2, h3, h4⟩
  rw [show (Value.int .i64 (st : Int)) = goInt st from rfl, r3, hw]
  simp [setBlock]
end
theorem keyOf_strs {P : Program} {k e : TypeId} (A : ArrKey P k e 2) (he : P.underlying e = some .string) (hsz : ∃ m, P.types.size = m + 1) (x : ByteArray × ByteArray) (hx : okK x) :
    keyOf P k (kvP x) = some (.string (keyBytes [.string x.1.data.toList, .string x.2.data.toList])) := by
  obtain ⟨a, b⟩ := x
  obtain ⟨h1, h2⟩ := hx
  simp only at h1 h2
  have hkt := A.keyType hsz
  obtain ⟨m, hm⟩ := hsz
  unfold keyOf kvP
  simp only [A.hu]
  rw [if_pos (by simp [hkt, Value.formed, A.hu, A.size]), hm]
  unfold Program.keyLits
  simp only [A.hu, Value.cells]
  rw [if_pos (by rw [A.size]; rfl), show List.range 2 = [0, 1] from rfl, List.mapM_cons, List.mapM_cons, List.mapM_nil]
  simp [A.one, Program.keyLits, he, h1, h2]
/-- How many entries are not 0. -/
def nzV : Value → Bool
  | .int _ x => decide (x ≠ 0)
  | _ => true
def cntV (L : List MapEntry) : Nat := (L.filter fun x => nzV x.val).length
theorem cntV_strike {x : MapEntry} : ∀ {L : List MapEntry}, (L.map (·.born)).Nodup → x ∈ L → cntV (L.filter fun y => y.born != x.born) + (if nzV x.val then 1 else 0) = cntV L
  | [], _, h => by cases h
  | y :: L, hn, h => by
    simp only [List.map_cons, List.nodup_cons] at hn
    by_cases hb : y.born = x.born
    · have hx : x = y := by
        rcases List.mem_cons.1 h with h | h
        · exact h
        · exact absurd (List.mem_map.2 ⟨x, h, hb.symm⟩) hn.1
      subst hx
      have hs : L.filter (fun y => y.born != x.born) = L := List.filter_eq_self.2 fun z hz => by
        have : z.born ≠ x.born := fun e => hn.1 (List.mem_map.2 ⟨z, hz, e⟩)
        simpa using this
      have e1 : (x.born != x.born) = false := by simp
      simp only [List.filter_cons, e1, Bool.false_eq_true, if_false, hs, cntV]
      split <;> simp
    · have hx : x ∈ L := by
        rcases List.mem_cons.1 h with h | h
        · exact absurd (congrArg MapEntry.born h).symm hb
        · exact h
      have ih := cntV_strike hn.2 hx
      have e1 : (y.born != x.born) = true := by simpa using hb
      simp only [List.filter_cons, e1, if_true]
      unfold cntV at ih ⊢
      simp only [List.filter_cons]
      split <;> (try simp only [List.length_cons]) <;> omega
theorem left_push (es : Array MapEntry) (seen : Array Nat) (n : Nat) : (leftOf es (seen.push n)).toList = (leftOf es seen).toList.filter fun y => y.born != n := by
  unfold leftOf
  rw [Array.toList_filter, Array.toList_filter, List.filter_filter]
  congr 1
  funext y
  rw [Array.contains_push]
  cases h1 : seen.contains y.born <;> cases h2 : (y.born == n) <;> simp_all
theorem cntV_ents {es : Array MapEntry} {clock : Nat} {l : List ((ByteArray × ByteArray) × Int)} (H : EntsP es clock l) : cntV es.toList = (l.filter fun r => decide (r.2 ≠ 0)).length := by
  have h := congrArg (fun m => (m.filter fun p => nzV p.2).length) H.ents
  simpa [List.filter_map, Function.comp_def, entP, nzV, cntV] using h
theorem Upd.block {w : World} {b : Nat} {o o' : Obj} (h : w.heap[b]? = some o) : Upd (Hp.one b o) (Hp.one b o') w (setBlock w b o') := by
  have hlt : b < w.heap.size := (Array.getElem?_eq_some_iff.1 h).1
  refine ⟨rfl, rfl, rfl, by simp [setBlock], fun q hq hn => ?_, Hp.one_sub (by simp [setBlock, hlt]), fun q hq => ?_⟩
  · have : q ≠ b := fun e => by rw [e, Hp.one_self] at hn; cases hn
    simp [setBlock, Ne.symm this]
  · by_cases e : q = b
    · subst e; left; rw [Hp.one_self]; simp
    · simp only [Hp.one] at hq; rw [if_neg e] at hq; exact absurd rfl hq
theorem next_env {P : Program} {w0 w : World} {l : List Hp} (E : Env w0 w l) (i j : Nat) (hij : i ≠ j) {r bm clock : Nat} {seen : Array Nat} {es : Array MapEntry} (hi : l[i]? = some (Hp.one r (.mapIter (some bm) clock seen clock)))
    (hj : l[j]? = some (Hp.one bm (.map es clock))) (st : Stamped es clock) (ty : TypeId) :
    ((leftOf es seen).size = 0 ∧ (Instr.next (.pointer (some ⟨r, 0, none⟩)) false ty).run P w = .ok (.tuple #[.bool false]) w) ∨
    ∃ e W', e ∈ (leftOf es seen).toList ∧ (Instr.next (.pointer (some ⟨r, 0, none⟩)) false ty).run P w = .ok (.tuple #[.bool true, e.key, e.val]) W' ∧ Env w0 W' (l.set i (Hp.one r (.mapIter (some bm) clock (seen.push e.born) clock))) ∧
      (Instr.entry (.pointer (some ⟨r, 0, none⟩))).run P W' = .ok (.tuple #[e.key, e.val]) W' := by
  have hr := E.sub i hi r _ (Hp.one_self _ _)
  have hb := E.sub j hj bm _ (Hp.one_self _ _)
  rcases run_next_at (P := P) w ty r bm clock clock seen es clock hr hb st.1 (Nat.le_refl _) with ⟨h0, hrun⟩ | ⟨e, he, w1, hal, hrun⟩
  · exact .inl ⟨h0, hrun⟩
  · have E1 : Env w0 w1 l := by
      rcases hal with h | h
      · rw [h]; exact E
      · rw [h]; exact E.drew
    have hr1 := E1.sub i hi r _ (Hp.one_self _ _)
    have E2 := E1.upd i hi (Upd.block (o' := .mapIter (some bm) clock (seen.push e.born) clock) hr1)
    have hlt : i < l.length := (List.getElem?_eq_some_iff.1 hi).1
    refine .inr ⟨e, _, he, hrun, E2, run_entry_at _ r bm clock seen es clock e (E2.sub i (List.getElem?_set_self hlt) r _ (Hp.one_self _ _)) (E2.sub j (by rw [List.getElem?_set_ne hij]; exact hj) bm _ (Hp.one_self _ _)) (mem_left he).1 st.2.1⟩
end Go.Sl
namespace Go.Proofs.Ytdcfojohgcmpcaa
open Go.RowKit Go.Sl
open Go.WideMaps (KeyLaw ArrKey)
set_option maxHeartbeats 1000000
set_option maxRecDepth 100000
theorem pairArr : ArrKey Try.prog 59 9 2 := ⟨Try.underlying59, by unfold Program.plainKey; rw [Try.underlying9], by kernel_rfl, by kernel_rfl⟩
theorem pairLaw : KeyLaw Try.prog 59 := pairArr.law
theorem pairKey (k : ByteArray × ByteArray) (hk : okK k) : ∃ kl, keyOf Try.prog 59 (kvP k) = some kl :=
  ⟨_, keyOf_strs pairArr Try.underlying9 ⟨_, show _ = Try.prog.types.size - 1 + 1 by kernel_rfl⟩ k hk⟩
theorem zeroInt' (w : World) : (zeroValue 3).run Try.prog w = .ok (.int .i64 0) w := by kernel_rfl
/-- A map that reads as a list of pairs and sums. -/
def MapP (h : Hp) (b : Nat) (l : List ((ByteArray × ByteArray) × Int)) : Prop := ∃ es clock, h = Hp.one b (.map es clock) ∧ EntsP es clock l
theorem MapP.new {w0 w : World} {L : List Hp} (E : Env w0 w L) : ∃ h, MapP h w.heap.size [] ∧ Env w0 (w.alloc (.map #[] 0)) (L ++ [h]) :=
  ⟨_, ⟨#[], 0, rfl, rfl, MapKept.stamped_empty 0, by simp⟩, E.new (Upd.newBlock w _)⟩
section
variable {h : Hp} {b : Nat} {l : List ((ByteArray × ByteArray) × Int)} {W : World}
theorem MapP.look (m : MapP h b l) (s : h.sub W) (k : ByteArray × ByteArray) (hk : okK k) : (Instr.lookup 53 (.map (some b)) (kvP k) false).run Try.prog W = .ok (.int .i64 (accP k l)) W := by
  obtain ⟨es, clock, rfl, H⟩ := m
  exact H.look pairLaw pairKey Try.underlying53 (zeroInt' _) (s b _ (Hp.one_self _ _)) k hk
theorem MapP.entry (m : MapP h b l) (s : h.sub W) (hl : l.length ≤ 1000) (k : ByteArray × ByteArray) (hk : okK k) (n : Int) :
    ∃ v0 st W1 W2 h' l', (Instr.mapEntry 53 (.map (some b)) (kvP k)).run Try.prog W = .ok (.tuple #[v0, .int .i64 st]) W1 ∧ (Instr.entryStore 53 (.map (some b)) (.int .i64 st) (.int .i64 (accP k l + n))).run Try.prog W1 = .ok () W2 ∧
      (Instr.lookup 53 (.map (some b)) (kvP k) false).run Try.prog W1 = .ok (.int .i64 (accP k l)) W1 ∧ MapP h' b l' ∧ Upd h h' W W2 ∧ l'.length ≤ l.length + 1 ∧ ∀ k', accP k' l' = accP k' l + if k = k' then n else 0 := by
  obtain ⟨es, clock, rfl, H⟩ := m
  have hb := s b _ (Hp.one_self _ _)
  obtain ⟨v0, st, w1, es2, clock2, l', r1, r2, rl, H2, r3, r4⟩ := H.entry pairLaw pairKey Try.underlying53 zeroInt' hb hl k hk n
  exact ⟨v0, st, w1, _, _, l', r1, r2, rl, ⟨es2, clock2, rfl, H2⟩, Upd.block hb, r3, r4⟩
end
section
variable {P : Program} (w : World) {ops : Array Oper} {rest : List Oper} {o : Oper} {a : Act} {Q : Exit → Act → World → Prop}
theorem wpList_mapEntry_run (hg : o.guard = none) (m x : Operand) (t : TypeId) (hop : o.op = Op.mapEntry t m x) (vm key : Value) (hm : a.eval m = vm) (hx : a.eval x = key) (v : Value) (w' : World)
    (hrun : (Instr.mapEntry t vm key).run P w = .ok v w') (hK : wpList P ops Q rest (a.put o.dst v) w') : wpList P ops Q (o :: rest) a w := by
  refine wpList_plain hg fun K' hK' => ?_
  unfold Oper.wp
  simp [execOp, hop, hm, hx, hrun, Result.andThen]
  exact hK' _ _ hK
theorem wpList_entryStore_run (hg : o.guard = none) (m s x : Operand) (t : TypeId) (hop : o.op = Op.entryStore t m s x) (vm sv v : Value) (hm : a.eval m = vm) (hs : a.eval s = sv) (hx : a.eval x = v) (w' : World)
    (hrun : (Instr.entryStore t vm sv v).run P w = .ok () w') (hK : wpList P ops Q rest (a.put o.dst undef) w') : wpList P ops Q (o :: rest) a w := by
  refine wpList_plain hg fun K' hK' => ?_
  unfold Oper.wp
  simp [execOp, hop, hm, hs, hx, hrun, Result.andThen]
  exact hK' _ _ hK
theorem wpList_range_run (hg : o.guard = none) (m : Operand) (t : TypeId) (hop : o.op = Op.range t m) (vm : Value) (hm : a.eval m = vm) (v : Value) (w' : World)
    (hrun : (Instr.range t vm).run P w = .ok v w') (hK : wpList P ops Q rest (a.put o.dst v) w') : wpList P ops Q (o :: rest) a w := by
  refine wpList_plain hg fun K' hK' => ?_
  unfold Oper.wp
  simp [execOp, hop, hm, hrun, Result.andThen]
  exact hK' _ _ hK
theorem wpList_next_run (hg : o.guard = none) (it : Operand) (hop : o.op = Op.next it false) (vi : Value) (hi : a.eval it = vi) (v : Value) (w' : World)
    (hrun : (Instr.next vi false o.type).run P w = .ok v w') (hK : wpList P ops Q rest (a.put o.dst v) w') : wpList P ops Q (o :: rest) a w := by
  refine wpList_plain hg fun K' hK' => ?_
  unfold Oper.wp
  simp [execOp, hop, hi, hrun, Result.andThen]
  exact hK' _ _ hK
end
end Go.Proofs.Ytdcfojohgcmpcaa
end
section
/- The walk of ref01.Money. -/
namespace Go.Proofs.Ytdcfojohgcmpcaa
open Go.RowKit Go.Sl
set_option maxHeartbeats 400000
theorem refMoney_calls (n : Int) (w : World) : Calls Try.prog 84 #[.int .i64 n] w fun e w' => e = .returned (.bool (money n)) ∧ w = w' := by
  go_enter Try.func84, Try.ntmps84
  go_wp2
  all_goals
    go_ret
    exact ⟨by simp [money]; omega, rfl⟩
end Go.Proofs.Ytdcfojohgcmpcaa
end
section
/- Registers of temporary differences, plain. No program is named here. -/
namespace Go.Sl
def rkey (x : STri) : Int × Int := (x.a, x.b)
abbrev RisingR (l : List STri) : Prop := Rising ordPair rkey l
def getB (l : List STri) (c y : Int) : Int := match find rkey (c, y) l with | some b => b.c | none => 0
def sumC (l : List STri) : Int := (l.map (·.c)).sum
def setB (l : List STri) (c y n : Int) : List STri := if n = 0 then del rkey (c, y) l else put ordPair rkey ⟨c, y, n⟩ l
theorem setGo_setB {l : List STri} (h : RisingR l) (c y n : Int) : setGo ordPair rkey ⟨c, y, n⟩ (decide (n = 0)) l = setB l c y n := by
  unfold setB
  by_cases h0 : n = 0
  · rw [if_pos h0, decide_eq_true h0, setGo_true]; rfl
  · rw [if_neg h0, decide_eq_false h0, setGo_false _ _ _ _ h]
def bucketOk (c y : Int) : Bool := decide (1 ≤ c ∧ c ≤ 9 ∧ 0 ≤ y ∧ y ≤ 99)
def moveE (l : List STri) (c y n : Int) : Int :=
  if (bucketOk c y && money n) = false then 1
  else if (money (getB l c y + n) && money (sumC l + n)) = false then 6
  else if 12 < (setB l c y (getB l c y + n)).length then 5 else 0
def moveR (l : List STri) (c y n : Int) : List STri := if moveE l c y n = 0 then setB l c y (getB l c y + n) else l
def reclE (l : List STri) (c y c2 y2 n : Int) : Int :=
  if (bucketOk c y && (bucketOk c2 y2 && (money n && !decide (c = c2 ∧ y = y2)))) = false then 1
  else if (money (getB l c y - n) && money (getB l c2 y2 + n)) = false then 6
  else if 12 < (setB (setB l c y (getB l c y - n)) c2 y2 (getB l c2 y2 + n)).length then 5 else 0
def reclR (l : List STri) (c y c2 y2 n : Int) : List STri := if reclE l c y c2 y2 n = 0 then setB (setB l c y (getB l c y - n)) c2 y2 (getB l c2 y2 + n) else l
/-- What holds of all registers. -/
structure GoodR (l : List STri) : Prop where
  rise : RisingR l
  nz : ∀ b ∈ l, b.c ≠ 0
  mon : ∀ b ∈ l, money b.c = true
  rng : ∀ b ∈ l, bucketOk b.a b.b = true
  len : l.length ≤ 12
theorem GoodR.nil : GoodR [] := ⟨List.Pairwise.nil, by simp, by simp, by simp, by simp⟩
theorem rising_setB {l : List STri} (h : RisingR l) (c y n : Int) : RisingR (setB l c y n) := by
  unfold setB; split
  · exact h.del _ _ _
  · exact h.put _ _ _
theorem mem_setB {l : List STri} {c y n : Int} {x : STri} : x ∈ setB l c y n ↔ (n ≠ 0 ∧ x = ⟨c, y, n⟩) ∨ x ∈ l ∧ rkey x ≠ (c, y) := by
  unfold setB
  split
  · rename_i h; simp [h, mem_del]
  · rename_i h; simp [h, mem_put, rkey]
theorem getB_setB {l : List STri} (h : RisingR l) (c y n c' y' : Int) : getB (setB l c y n) c' y' = if c' = c ∧ y' = y then n else getB l c' y' := by
  unfold setB getB
  by_cases h0 : n = 0
  · rw [if_pos h0, find_del (o := ordPair) _ h]
    by_cases e : (c', y') = (c, y)
    · rw [if_pos e, if_pos (by simpa using e)]; exact h0.symm
    · rw [if_neg e, if_neg (by simpa using e)]
  · rw [if_neg h0, find_put _ h]
    by_cases e : (c', y') = (c, y)
    · rw [if_pos (by simpa [rkey] using e), if_pos (by simpa using e)]
    · rw [if_neg (by simpa [rkey] using e), if_neg (by simpa using e)]
theorem sumC_setB {l : List STri} (h : RisingR l) (c y n : Int) : sumC (setB l c y n) = sumC l - getB l c y + n := by
  have e := sum_del (o := ordPair) (fun b : STri => b.c) (c, y) h
  have e : (l.map (·.c)).sum = ((del rkey (c, y) l).map (·.c)).sum + getB l c y := by
    rw [e]; unfold getB; cases find rkey (c, y) l <;> rfl
  unfold setB sumC
  split
  · rename_i h0; subst h0
    omega
  · rw [sum_put (fun b : STri => b.c) _ h]
    show ((del rkey (c, y) l).map (·.c)).sum + n = _
    omega
theorem len_setB {l : List STri} (h : RisingR l) (c y n : Int) : (setB l c y n).length ≤ l.length + 1 := by
  unfold setB
  split
  · have := del_le (key := rkey) (c, y) l; omega
  · rw [len_put _ h]; have := del_le (key := rkey) (rkey ⟨c, y, n⟩) l; omega
theorem GoodR.setB {l : List STri} (g : GoodR l) {c y n : Int} (hb : bucketOk c y = true) (hn : money n = true) (hl : (setB l c y n).length ≤ 12) : GoodR (setB l c y n) :=
  by
  refine ⟨rising_setB g.rise c y n, fun b hb' => ?_, fun b hb' => ?_, fun b hb' => ?_, hl⟩
  all_goals rcases mem_setB.1 hb' with ⟨h0, rfl⟩ | ⟨h, _⟩
  · exact h0
  · exact g.nz b h
  · exact hn
  · exact g.mon b h
  · exact hb
  · exact g.rng b h
theorem moveE_ok {l : List STri} {c y n : Int} (h : moveE l c y n = 0) : bucketOk c y = true ∧ money n = true ∧ money (getB l c y + n) = true ∧ money (sumC l + n) = true ∧ (Go.Sl.setB l c y (getB l c y + n)).length ≤ 12 := by
  unfold moveE at h
  split at h
  · cases h
  · split at h
    · cases h
    · split at h
      · cases h
      · rename_i h1 h2 h3
        simp at h1 h2
        exact ⟨h1.1, h1.2, h2.1, h2.2, by omega⟩
theorem GoodR.move {l : List STri} (g : GoodR l) (c y n : Int) : GoodR (moveR l c y n) := by
  unfold moveR
  split
  · rename_i h
    obtain ⟨h1, _, h3, _, h5⟩ := moveE_ok h
    exact g.setB h1 h3 h5
  · exact g
theorem reclE_ok {l : List STri} {c y c2 y2 n : Int} (h : reclE l c y c2 y2 n = 0) : bucketOk c y = true ∧ bucketOk c2 y2 = true ∧ money n = true ∧ ¬(c = c2 ∧ y = y2) ∧ money (getB l c y - n) = true ∧ money (getB l c2 y2 + n) = true ∧ (Go.Sl.setB (Go.Sl.setB l c y (getB l c y - n)) c2 y2 (getB l c2 y2 + n)).length ≤ 12 := by
  unfold reclE at h
  split at h
  · cases h
  · split at h
    · cases h
    · split at h
      · cases h
      · rename_i h1 h2 h3
        simp at h1 h2
        exact ⟨h1.1, h1.2.1, h1.2.2.1, by simpa using h1.2.2.2, h2.1, h2.2, by omega⟩
theorem mem_len {l : List STri} (h : ∀ b ∈ l, money b.c = true) : ∀ b ∈ l, -100000000000 ≤ b.c ∧ b.c ≤ 100000000000 := fun b hb => by have := h b hb; simpa [money] using this
theorem sumC_bd {m : Int} (hm : 0 ≤ m) : ∀ l : List STri, (∀ b ∈ l, -m ≤ b.c ∧ b.c ≤ m) → -(l.length * m) ≤ sumC l ∧ sumC l ≤ l.length * m
  | [], _ => by simp [sumC]
  | b :: l, h => by
    have h1 := sumC_bd hm l fun x hx => h x (by simp [hx])
    have h2 := h b (by simp)
    have e : sumC (b :: l) = b.c + sumC l := by simp [sumC]
    rw [e]
    simp only [List.length_cons, Int.natCast_add, Int.add_mul, Int.natCast_one, Int.one_mul]
    omega
theorem GoodR.sum {l : List STri} (g : GoodR l) : -1200000000000 ≤ sumC l ∧ sumC l ≤ 1200000000000 := by
  have h := sumC_bd (m := 100000000000) (by omega) l (mem_len g.mon)
  have := g.len
  omega
theorem GoodR.get {l : List STri} (g : GoodR l) (c y : Int) : -100000000000 ≤ getB l c y ∧ getB l c y ≤ 100000000000 := by
  unfold getB
  split
  · rename_i b hb; exact mem_len g.mon b (find_some hb).1
  · omega
/-- A register out of numbers. -/
def regStep (l : List STri) (z : Int) : List STri := moveR l (1 + within z 3) (within (z.tdiv 3) 5) (amount (z.tdiv 15))
def regOf (zs : List Int) : List STri := (zs.take 10).foldl regStep []
theorem GoodR.foldl : ∀ (zs : List Int) (l : List STri), GoodR l → GoodR (zs.foldl regStep l)
  | [], _, g => g
  | _ :: zs, _, g => GoodR.foldl zs _ (g.move _ _ _)
theorem regOf_good (zs : List Int) : GoodR (regOf zs) := GoodR.foldl _ _ .nil
end Go.Sl
end
section
/- Plain facts of lists and registers, a register's own struct. No program is named here. -/
namespace Go.Sl
open Go Go.RowKit
theorem find_hit {κ α : Type} [DecidableEq κ] {key : α → κ} {k : κ} {l : List α} {j : Nat} {x : α} (h : ∀ y ∈ l.take j, key y ≠ k) (hx : l[j]? = some x) (hk : key x = k) : find key k l = some x := by
  have hj := List.getElem?_eq_some_iff.1 hx
  have e : l = l.take j ++ x :: l.drop (j + 1) := by
    have := List.take_append_drop j l
    rw [List.drop_eq_getElem_cons hj.1, hj.2] at this; exact this.symm
  unfold find
  rw [e, List.find?_append]
  have h2 : (l.take j).find? (fun y => decide (key y = k)) = none := by
    rw [List.find?_eq_none]; intro y hy; simpa using h y hy
  rw [h2]; simp [hk]
theorem find_miss {κ α : Type} [DecidableEq κ] {key : α → κ} {k : κ} {l : List α} (h : ∀ y ∈ l, key y ≠ k) : find key k l = none := by
  unfold find; rw [List.find?_eq_none]; intro y hy; simpa using h y hy
theorem drop_next {α : Type} {xs : List α} {i : Nat} {x : α} (h : Hid (xs[i]? = some x)) : xs.drop i = x :: xs.drop (i + 1) := by
  have h2 := List.getElem?_eq_some_iff.1 h.out
  rw [List.drop_eq_getElem_cons h2.1, h2.2]
/-- A register's own struct. -/
def kReg : Kd (List STri) where
  size := 1
  K h l cs := ∃ A cap, cs = [.slice A l.length cap] ∧ Ow kTri h A cap l
  pos := by decide
  len := by rintro h x cs ⟨A, cap, rfl, _⟩; rfl
  one := by rintro h x cs ⟨A, cap, rfl, _⟩ u hu; simp at hu; subst hu; rfl
  mono := by rintro h h' x cs ⟨A, cap, e, s⟩ l; exact ⟨A, cap, e, s.mono l⟩
theorem Pt.reg {T : TypeId} {h : Hp} {b : Nat} {l : List STri} {w : World} (p : Pt kReg T h b l) (s : h.sub w) : ∃ A ca, w.cell? ⟨b, 0, none⟩ = some (.slice A l.length ca) ∧ Sl kTri h A ca l := by
  obtain ⟨cs, hb, A, ca, rfl, ow⟩ := p
  exact ⟨A, ca, by rw [cell_of_row w b 0 _ _ _ (s b _ hb)]; rfl, ow.sl.mono (Hp.del_le _ _)⟩
theorem sumC_snoc (l : List STri) (x : STri) : sumC (l ++ [x]) = sumC l + x.c := by simp [sumC]
end Go.Sl
end
section
/- What the type table says of api.Bucket. -/
namespace Go.Proofs.Ytdcfojohgcmpcaa
open Go.RowKit Go.Sl
set_option maxHeartbeats 1000000
set_option maxRecDepth 100000
theorem info_bucket : Info Try.prog 81 (.agg #[.int .i64 0, .int .i64 0, .int .i64 0]) 3 24 := by unfold Info; kernel_rfl
end Go.Proofs.Ytdcfojohgcmpcaa
end
section
/- The walks of the reference's register: Get, Total, set. -/
namespace Go.Proofs.Ytdcfojohgcmpcaa
open Go.RowKit Go.Sl
set_option maxHeartbeats 1000000
set_option maxRecDepth 100000
theorem refGet_calls (p : Nat) (A : Option Addr) (ca : Nat) (l : List STri) (c y : Int) (h : Hp) (w : World) (hs : h.sub w) (hc : w.cell? ⟨p, 0, none⟩ = some (.slice A l.length ca)) (sx : Sl kTri h A ca l) :
    Calls Try.prog 47 #[.pointer (some ⟨p, 0, none⟩), .int .i64 c, .int .i64 y] w fun e w' => e = .returned (.int .i64 (getB l c y)) ∧ Below w.heap.size w w' := by
  have m1 := sx.small
  go_enter Try.func47, Try.ntmps47
  go_wp2
  go_loopw [14] (fun i wr => ∃ (j : Nat), j ≤ l.length ∧ i = .int .i64 j ∧ Hid (∀ z ∈ l.take j, rkey z ≠ (c, y)) ∧ Below w.heap.size w wr) (fun i _ => l.length - (intOf i).toNat)
  case atStart => exact ⟨0, by omega, rfl, by unfold Hid; simp, Below.refl _ _⟩
  case round =>
    obtain ⟨j, hj, rfl, hn, hb⟩ := hrel
    by_cases hlt : j < l.length
    · obtain ⟨x, hx⟩ := some_of_lt hlt
      obtain ⟨b1, o1, rfl, c1, c2, c3⟩ := sx.tri (hs.of_below hb) hx
      have i1 : (0 : Int) ≤ (j : Int) := by omega
      have i2 : (j : Int) < (l.length : Int) := by omega
      have HN : rkey x ≠ (c, y) → Hid (∀ z ∈ l.take (j + 1), rkey z ≠ (c, y)) := fun h z hz => by
        rw [take_next hx] at hz
        rcases List.mem_append.1 hz with hz | hz
        · exact hn.out z hz
        · simp at hz; rw [hz]; exact h
      by_cases ha : x.a = c
      · by_cases hbb : x.b = y
        · have HF : Hid (getB l c y = x.c) := by
            unfold Hid getB; rw [find_hit hn.out hx.out (by simp [rkey, ha, hbb])]
          have t1 : (x.a == c) = true := by simpa using ha
          have t2 : (x.b == y) = true := by simpa using hbb
          clear ha hbb HN
          go_wp2
          go_ret
          exact ⟨by rw [HF.out]; rfl, hb.alloc hb.size _⟩
        · have HN' := HN (by simp [rkey, hbb])
          have t1 : (x.a == c) = true := by simpa using ha
          have t2 : (x.b == y) = false := by simpa using hbb
          clear ha hbb HN
          go_wp2
          go_roundw
          case rel => exact ⟨j + 1, by omega, by go_num, HN', hb.alloc hb.size _⟩
          case measure => simp [intOf]; omega
      · have HN' := HN (by simp [rkey, ha])
        have t1 : (x.a == c) = false := by simpa using ha
        clear ha HN
        go_wp2
        go_roundw
        case rel => exact ⟨j + 1, by omega, by go_num, HN', hb.alloc hb.size _⟩
        case measure => simp [intOf]; omega
    · have HF : Hid (getB l c y = 0) := by
        unfold Hid getB; rw [find_miss fun z hz => hn.out z (by rw [List.take_of_length_le (by omega)]; exact hz)]
      go_wp2
      go_ret
      exact ⟨by rw [HF.out]; rfl, hb⟩
theorem refTotal_calls (p : Nat) (A : Option Addr) (ca : Nat) (l : List STri) (h : Hp) (w : World) (hs : h.sub w) (hc : w.cell? ⟨p, 0, none⟩ = some (.slice A l.length ca)) (sx : Sl kTri h A ca l) (hl : l.length ≤ 1000) (hm : ∀ b ∈ l, -100000000000 ≤ b.c ∧ b.c ≤ 100000000000) :
    Calls Try.prog 46 #[.pointer (some ⟨p, 0, none⟩)] w fun e w' => e = .returned (.int .i64 (sumC l)) ∧ Below w.heap.size w w' := by
  have m1 := sx.small
  have HM := Lib.hid hm
  clear hm
  go_enter Try.func46, Try.ntmps46
  go_wp2
  go_loopw [3, 11] (fun s i wr => ∃ (j : Nat), j ≤ l.length ∧ i = .int .i64 j ∧ s = .int .i64 (sumC (l.take j)) ∧ Below w.heap.size w wr) (fun _ i _ => l.length - (intOf i).toNat)
  case atStart => exact ⟨0, by omega, rfl, rfl, Below.refl _ _⟩
  case round =>
    obtain ⟨j, hj, rfl, rfl, hb⟩ := hrel
    by_cases hlt : j < l.length
    · obtain ⟨x, hx⟩ := some_of_lt hlt
      obtain ⟨b1, o1, rfl, c1, c2, c3⟩ := sx.tri (hs.of_below hb) hx
      have i1 : (0 : Int) ≤ (j : Int) := by omega
      have i2 : (j : Int) < (l.length : Int) := by omega
      have q1 := HM.out x (List.mem_of_getElem? hx.out)
      have q2 := sumC_bd (m := 100000000000) (by omega) (l.take j) fun b hb => HM.out b (List.mem_of_mem_take hb)
      rw [List.length_take] at q2
      obtain ⟨q3, q4⟩ : -1000000000000000 ≤ sumC (l.take j) ∧ sumC (l.take j) ≤ 1000000000000000 := by omega
      clear q2
      have HT : Hid (sumC (l.take (j + 1)) = sumC (l.take j) + x.c) := by unfold Hid; rw [take_next hx, sumC_snoc]
      go_wp2
      go_roundw
      case rel => exact ⟨j + 1, by omega, by go_num, by rw [HT.out], hb.alloc hb.size _⟩
      case measure => simp [intOf]; omega
    · obtain rfl : j = l.length := by omega
      rw [List.take_length]
      go_wp2
      go_ret
      exact ⟨rfl, hb⟩
theorem refBucket_calls (c y : Int) (w : World) : Calls Try.prog 93 #[.int .i64 c, .int .i64 y] w fun e w' => e = .returned (.bool (bucketOk c y)) ∧ w = w' := by
  have Y : ∀ (y : Int) (w : World), Calls Try.prog 120 #[.int .i64 y] w fun e w' => e = .returned (.bool (decide (0 ≤ y ∧ y ≤ 99))) ∧ w = w' := fun y w => by
    go_enter Try.func120, Try.ntmps120
    go_wp2
    all_goals
      go_ret
      exact ⟨by simp; omega, rfl⟩
  have HB : ∀ b : Bool, b = decide (0 ≤ y ∧ y ≤ 99) → Hid (bucketOk c y = (decide (1 ≤ c ∧ c ≤ 9) && b)) := fun b hb => by
    unfold Hid bucketOk; rw [hb, Bool.eq_iff_iff]; simp; omega
  have YC := Y y
  generalize hq : decide (0 ≤ y ∧ y ≤ 99) = q at *
  have HB' := HB q rfl
  clear HB hq Y
  go_enter Try.func93, Try.ntmps93
  go_wp2_with (go_at_call 120; refine (YC _).mono ?_; rintro e w' ⟨rfl, rfl⟩)
  all_goals
    go_ret
    exact ⟨by rw [HB'.out]; simp; omega, rfl⟩
end Go.Proofs.Ytdcfojohgcmpcaa
end
