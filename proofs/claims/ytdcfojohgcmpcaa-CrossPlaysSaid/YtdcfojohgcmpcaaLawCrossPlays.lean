/- The law CrossPlays: for every input it returns true, and its arguments read behind the call as before it. No conditions. -/
import Derived.Test.YtdcfojohgcmpcaaPk4
import Derived.Laws.Cover1
import Derived.Deep.QuietTactic
import Derived.BigQuiet
import Derived.OwnWalk
import Derived.Deep.DeepCutAuto
import Derived.Deep.CutBlock
set_option linter.all false
section
/- The walk of the reference's Cross: Add. -/
namespace Go.Sl
open Go Go.RowKit
theorem bl_cmp : ∀ a b : List UInt8, Op.bytesLess a b = decide (Lib.compareBytes a b = -1)
  | [], [] => by simp [Op.bytesLess, Lib.compareBytes]
  | _ :: _, [] => by simp [Op.bytesLess, Lib.compareBytes]
  | [], _ :: _ => by simp [Op.bytesLess, Lib.compareBytes]
  | a :: az, b :: bs => by
    unfold Op.bytesLess Lib.compareBytes
    rw [bl_cmp az bs]
    by_cases h1 : a < b
    · simp [h1]
    · by_cases h2 : b < a
      · have h3 : a ≠ b := fun e => h1 (e ▸ h2)
        simp [h1, h2, h3]
      · have h3 : a = b := by
          rcases u8_tri a b with h | h | h
          · exact absurd h h1
          · exact h
          · exact absurd h h2
        simp [h3, UInt8.lt_irrefl]
theorem blS (a b : ByteArray) : Op.bytesLess a.toList b.toList = decide (cmpS a b = -1) := by
  rw [bl_cmp, tl_data, tl_data]; rfl
def stepP (s b : ByteArray) (v : Int) (x : SPair) : Int := if isP s b x = true then x.amt else v
def lastP (l : List SPair) (s b : ByteArray) : Int := l.foldl (stepP s b) 0
theorem lastP_none {s b : ByteArray} : ∀ {l : List SPair} (v : Int), (∀ x ∈ l, isP s b x = false) → l.foldl (stepP s b) v = v
  | [], _, _ => rfl
  | x :: l, v, h => by
    rw [List.foldl_cons, show stepP s b v x = v by unfold stepP; rw [h x (by simp)]; rfl]
    exact lastP_none v fun y hy => h y (by simp [hy])
theorem lastP_has {s b : ByteArray} : ∀ {l : List SPair}, Rising ordStr2 pkey l → lastP l s b = hasP l s b
  | [], _ => rfl
  | x :: l, h => by
    have ih := lastP_has (s := s) (b := b) h.tail
    unfold lastP at *
    rw [List.foldl_cons]
    by_cases hx : x.s = s ∧ x.b = b
    · have h1 : isP s b x = true := by simp [isP, hx]
      rw [show stepP s b 0 x = x.amt by unfold stepP; rw [h1]; rfl, lastP_none]
      · unfold hasP find; simp [pkey, hx]
      · intro y hy
        have h2 := h.head _ _ y hy
        have h3 := ordStr2.ne h2
        cases h4 : isP s b y with
        | false => rfl
        | true =>
          have h5 : y.s = s ∧ y.b = b := by simpa [isP] using h4
          exact absurd (by simp [pkey, hx, h5]) h3
    · have h1 : isP s b x = false := by simpa [isP] using hx
      rw [show stepP s b 0 x = 0 by unfold stepP; rw [h1]; rfl, ih]
      have h6 : ¬ pkey x = (s, b) := by simpa [pkey] using hx
      unfold hasP find; simp [h6]
theorem lastP_take {l : List SPair} {j : Nat} {x : SPair} (hx : Hid (l[j]? = some x)) (s b : ByteArray) : lastP (l.take (j + 1)) s b = if isP s b x = true then x.amt else lastP (l.take j) s b := by
  rw [take_next hx]; unfold lastP; rw [List.foldl_append]; rfl
/-- What the reference's second loop makes. -/
theorem goP_lay {x y : SPair} {l : List SPair} (h : ordStr2.lt (pkey x) (pkey y) = true) : setGo ordStr2 pkey x false (y :: l) = x :: y :: setGo ordStr2 pkey x true l := by
  rw [setGo, if_neg (ordStr2.ne h).symm, if_pos ⟨rfl, h⟩]
theorem goP_keep {x y : SPair} {d : Bool} {l : List SPair} (h : pkey y ≠ pkey x) (h2 : d = true ∨ ordStr2.lt (pkey x) (pkey y) = false) : setGo ordStr2 pkey x d (y :: l) = y :: setGo ordStr2 pkey x d l := by
  rw [setGo, if_neg h, if_neg]; rintro ⟨a, b⟩; rcases h2 with h2 | h2 <;> simp_all
theorem goP_skip {x y : SPair} {d : Bool} {l : List SPair} (h : pkey y = pkey x) : setGo ordStr2 pkey x d (y :: l) = setGo ordStr2 pkey x d l := by simp [setGo, h]
theorem goP_len (x : SPair) : ∀ (l : List SPair) (d : Bool), (setGo ordStr2 pkey x d l).length ≤ 2 * l.length + 1
  | [], d => by cases d <;> simp [setGo]
  | y :: l, d => by
    have h1 := goP_len x l d
    have h2 := goP_len x l true
    unfold setGo
    split
    · simp; omega
    · split
      · simp; omega
      · simp; omega
theorem goP_all {l : List SPair} (h : Rising ordStr2 pkey l) (s b : ByteArray) (v : Int) : setGo ordStr2 pkey ⟨s, b, v⟩ (decide (v = 0)) l = isort ordStr2 pkey (nextP l s b v) := by
  rw [nextP_put h]
  by_cases h0 : v = 0
  · rw [if_pos h0, decide_eq_true h0, setGo_true]; rfl
  · rw [if_neg h0, decide_eq_false h0, setGo_false _ _ _ _ h]
theorem appa2 {α : Type} (l : List α) (x y : α) (r : List α) : l ++ x :: y :: r = (l ++ [x] ++ [y]) ++ r := by simp
theorem appa1 {α : Type} (l : List α) (x : α) (r : List α) : l ++ x :: r = (l ++ [x]) ++ r := by simp
theorem cmpS_self (a : ByteArray) : cmpS a a = 0 := cmpB_self _
theorem cmpS_swap (a b : ByteArray) : cmpS b a = -cmpS a b := cmpB_swap _ _
end Go.Sl
namespace Go.Proofs.Ytdcfojohgcmpcaa
open Go.RowKit Go.Sl
set_option maxHeartbeats 4000000
set_option maxRecDepth 100000
theorem info_pair19 : Info Try.prog 68 (.agg #[.string ⟨#[]⟩, .string ⟨#[]⟩, .int .i64 0]) 3 40 := by unfold Info; kernel_rfl
abbrev PtX (h : Hp) (b : Nat) (l : List SPair) : Prop := Pt (kOne kPair) 66 h b l
def RXAns (b : Nat) (l : List SPair) (s bb : ByteArray) (n : Int) (h : Hp) (w : World) (e : Ending) (w' : World) : Prop :=
  ∃ h', e = .returned (.int .i64 (addE l s bb n)) ∧ PtX h' b (addW l s bb n) ∧ Upd h h' w w'
theorem refCrossAdd_calls (b : Nat) (l : List SPair) (s bb : ByteArray) (n : Int) (h : Hp) (w : World) (hs : h.sub w) (hp : PtX h b l) (g : GoodP l) :
    Calls Try.prog 32 #[.pointer (some ⟨b, 0, none⟩), .string s, .string bb, .int .i64 n] w (RXAns b l s bb n h w) := by
  have NO : ∀ {q : Int} {W : World}, addE l s bb n = q → q ≠ 0 → Below w.heap.size w W → RXAns b l s bb n h w (.returned (.int .i64 q)) W := fun h1 h2 h3 => ⟨h, by rw [h1], by unfold addW; rw [if_neg (by rw [h1]; exact h2)]; exact hp, Upd.stay hs h3⟩
  have gl := g.len
  obtain ⟨A, ca, hb, hc, ow, hfz⟩ := hp.one hs
  have hlt : b < w.heap.size := World.block_lt_of_cell? _ _ hc
  have sx := ow.sl
  have hd := hs.del b
  have m1 := sx.small
  have MC := fun W => refMoney_calls n W
  have HE : Hid (addE l s bb n = if (noS s || (noS bb || (decide (s = bb) || !money n))) = true then 1 else if (decide (hasP l s bb + n < 0) || !money (hasP l s bb + n)) = true then 6 else if 8 < (nextP l s bb (hasP l s bb + n)).length then 5 else 0) := rfl
  cases e0 : s.toList.isEmpty with
  | true =>
    have HE1 : Hid (addE l s bb n = 1) := by unfold Hid; rw [HE.out, if_pos (by simp [noS, e0])]
    have e0' : s.toList = [] := by simpa using e0
    clear MC
    go_enter Try.func32, Try.ntmps32
    go_wp2
    go_ret
    exact NO HE1.out (by decide) (Below.refl _ _)
  | false =>
  cases e1 : bb.toList.isEmpty with
  | true =>
    have HE1 : Hid (addE l s bb n = 1) := by unfold Hid; rw [HE.out, if_pos (by simp [noS, e1])]
    have e1' : bb.toList = [] := by simpa using e1
    clear MC
    go_enter Try.func32, Try.ntmps32
    go_wp2
    go_ret
    exact NO HE1.out (by decide) (Below.refl _ _)
  | false =>
  by_cases e2 : s = bb
  · have HE1 : Hid (addE l s bb n = 1) := by unfold Hid; rw [HE.out, if_pos (by simp [e2])]
    have t2 : (s.toList == bb.toList) = true := by rw [e2]; simp
    clear MC e2
    go_enter Try.func32, Try.ntmps32
    go_wp2
    go_ret
    exact NO HE1.out (by decide) (Below.refl _ _)
  have t2 : (s.toList == bb.toList) = false := beq_eq_false_iff_ne.2 fun e => e2 (tl_inj e)
  cases e3 : money n with
  | false =>
    have HE1 : Hid (addE l s bb n = 1) := by unfold Hid; rw [HE.out, if_pos (by simp [e3])]
    rw [e3] at MC
    clear e2 e3
    go_enter Try.func32, Try.ntmps32
    go_wp2_with (go_at_call 84; refine (MC _).mono ?_; rintro e w' ⟨rfl, rfl⟩)
    go_ret
    exact NO HE1.out (by decide) (Below.refl _ _)
  | true =>
  have HE2 : Hid (addE l s bb n = if (decide (hasP l s bb + n < 0) || !money (hasP l s bb + n)) = true then 6 else if 8 < (nextP l s bb (hasP l s bb + n)).length then 5 else 0) := by
    unfold Hid; rw [HE.out, if_neg (by simp [noS, e0, e1, e2, e3])]
  obtain ⟨n1, n2⟩ : -100000000000 ≤ n ∧ n ≤ 100000000000 := by simpa [money] using e3
  obtain ⟨g1, g2⟩ := hasP_bd g s bb
  rw [e3] at MC
  clear HE e2 e3
  have HLs := Lib.hid (lastP_has (s := s) (b := bb) g.rise)
  obtain ⟨V, hV⟩ : ∃ V, hasP l s bb + n = V := ⟨_, rfl⟩
  have HV : Hid (n + lastP l s bb = V) := by unfold Hid; rw [HLs.out]; omega
  rw [hV] at HE2
  have HRR : Hid (addE l s bb n = 0 → addW l s bb n = isort ordStr2 pkey (nextP l s bb V)) := fun h => by unfold addW; rw [if_pos h, hV]
  have hlast : ∀ j, -100000000000 ≤ lastP (l.take j) s bb ∧ lastP (l.take j) s bb ≤ 100000000000 := fun j => by
    have := hasP_bd (l := l.take j) ⟨(List.Pairwise.sublist (List.take_sublist j l) g.rise), fun x hx => g.amt x (List.mem_of_mem_take hx), by rw [List.length_take]; omega⟩ s bb
    rw [lastP_has (List.Pairwise.sublist (List.take_sublist j l) g.rise)]; omega
  have HL := Lib.hid hlast
  have hd5 := goP_all g.rise s bb V
  have hil := isort_length (nextP_dist g.rise s bb V)
  rw [← hd5] at HRR hil
  clear hlast hd5 hV g1 g2
  have MV := fun W => refMoney_calls V W
  go_enter Try.func32, Try.ntmps32
  go_wp2_with (go_at_call 84; refine (MC _).mono ?_; rintro e w' ⟨rfl, rfl⟩)
  clear MC t2 e0 e1
  go_loopw [10, 37] (fun v i wr => ∃ (j : Nat), j ≤ l.length ∧ i = .int .i64 j ∧ v = .int .i64 (lastP (l.take j) s bb) ∧ Below w.heap.size w wr) (fun _ i _ => l.length - (intOf i).toNat)
  case atStart => exact ⟨0, by omega, rfl, rfl, Below.refl _ _⟩
  case round =>
    obtain ⟨j, hj, rfl, rfl, hu⟩ := hrel
    by_cases hlt2 : j < l.length
    · obtain ⟨x, hx⟩ := some_of_lt hlt2
      obtain ⟨b1, o1, rfl, c1, c2, c3⟩ := sx.pair (hd.of_below hu) hx
      have i1 : (0 : Int) ≤ (j : Int) := by omega
      have i2 : (j : Int) < (l.length : Int) := by omega
      have HT := Lib.hid (lastP_take hx s bb)
      generalize lastP (l.take j) s bb = lv at *
      by_cases h1 : x.s = s
      · have t1 : (x.s.toList == s.toList) = true := by rw [h1]; simp
        by_cases h2 : x.b = bb
        · have t2 : (x.b.toList == bb.toList) = true := by rw [h2]; simp
          have HN : Hid (lastP (l.take (j + 1)) s bb = x.amt) := by unfold Hid; rw [HT.out, if_pos (by simp [isP, h1, h2])]
          clear h1 h2 HT
          go_wp2
          go_roundw
          case rel => exact ⟨j + 1, by omega, by go_num, by rw [HN.out], hu.trans (Below.mono (by repeat (first | exact Below.refl _ _ | apply Below.drew | refine Below.alloc ?_ (by simp) _)) hu.size)⟩
          case measure => simp [intOf]; omega
        · have t2 : (x.b.toList == bb.toList) = false := beq_eq_false_iff_ne.2 fun e => h2 (tl_inj e)
          have HN : Hid (lastP (l.take (j + 1)) s bb = lv) := by unfold Hid; rw [HT.out, if_neg (by simp [isP, h2])]
          clear h1 h2 HT
          go_wp2
          go_roundw
          case rel => exact ⟨j + 1, by omega, by go_num, by rw [HN.out], hu.trans (Below.mono (by repeat (first | exact Below.refl _ _ | apply Below.drew | refine Below.alloc ?_ (by simp) _)) hu.size)⟩
          case measure => simp [intOf]; omega
      · have t1 : (x.s.toList == s.toList) = false := beq_eq_false_iff_ne.2 fun e => h1 (tl_inj e)
        have HN : Hid (lastP (l.take (j + 1)) s bb = lv) := by unfold Hid; rw [HT.out, if_neg (by simp [isP, h1])]
        clear h1 HT
        go_wp2
        go_roundw
        case rel => exact ⟨j + 1, by omega, by go_num, by rw [HN.out], hu.trans (Below.mono (by repeat (first | exact Below.refl _ _ | apply Below.drew | refine Below.alloc ?_ (by simp) _)) hu.size)⟩
        case measure => simp [intOf]; omega
    · obtain rfl : j = l.length := by omega
      rw [List.take_length]
      have l1 := HL.out l.length
      rw [List.take_length] at l1
      have hcr := (hu.cell (p := ⟨b, 0, none⟩) hlt).trans hc
      have hVe := HV.out
      generalize lastP l s bb = lv at *
      have hw1 : IntKind.i64.wrap (n + lv) = V := by rw [IntKind.wrap_i64]; omega
      have hV2 : -200000000000 ≤ V ∧ V ≤ 200000000000 := by omega
      clear hVe
      by_cases h0 : V < 0
      · have HE1 : Hid (addE l s bb n = 6) := by unfold Hid; rw [HE2.out, if_pos (by simp [h0])]
        have t3 : decide (V < 0) = true := decide_eq_true h0
        clear MV
        go_wp2
        go_ret
        exact NO HE1.out (by decide) hu
      have t3 : decide (V < 0) = false := decide_eq_false h0
      cases e4 : money V with
      | false =>
        have HE1 : Hid (addE l s bb n = 6) := by unfold Hid; rw [HE2.out, if_pos (by simp [e4])]
        rw [e4] at MV
        clear e4
        go_wp2_with (go_at_call 84; refine (MV _).mono ?_; rintro e w' ⟨rfl, rfl⟩)
        go_ret
        exact NO HE1.out (by decide) hu
      | true =>
      have HE3 : Hid (addE l s bb n = if 8 < (nextP l s bb V).length then 5 else 0) := by
        unfold Hid; rw [HE2.out, if_neg (by simp [e4]; omega)]
      rw [← hil] at HE3
      rw [e4] at MV
      clear e4 HE2
      obtain ⟨G, hG⟩ : ∃ G : Bool → List SPair → List SPair, G = setGo ordStr2 pkey ⟨s, bb, V⟩ := ⟨_, rfl⟩
      rw [← hG] at HE3 HRR
      have HG : ∀ d : Bool, Hid (G d [] = if d = true then [] else [⟨s, bb, V⟩]) := fun d => by rw [hG]; exact rfl
      have GS : ∀ {x : SPair} {d : Bool} {r : List SPair}, x.s = s → x.b = bb → G d (x :: r) = G d r := fun h1 h2 => by rw [hG]; exact goP_skip (by simp [pkey, h1, h2])
      have GK : ∀ {x : SPair} {d : Bool} {r : List SPair}, ¬(x.s = s ∧ x.b = bb) → (d = true ∨ ¬(cmpS s x.s = -1 ∨ s = x.s ∧ cmpS bb x.b = -1)) → G d (x :: r) = x :: G d r := fun h1 h2 => by
        rw [hG]; exact goP_keep (by simpa [pkey] using h1) (h2.imp id fun h => by simpa [ordStr2, pkey] using h)
      have GL : ∀ {x : SPair} {r : List SPair}, (cmpS s x.s = -1 ∨ s = x.s ∧ cmpS bb x.b = -1) → G false (x :: r) = ⟨s, bb, V⟩ :: x :: G true r := fun h => by rw [hG]; exact goP_lay (by simpa [ordStr2, pkey] using h)
      have hn0 : (V == 0) = decide (V = 0) := by rw [Bool.eq_iff_iff]; simp
      clear hG hil
      have E1 := ((Env.start w).below hu).new (Upd.of_below (Below.refl wr.heap.size wr))
      simp at E1
      go_wp2_with (go_at_call 84; refine (MV _).mono ?_; rintro e w' ⟨rfl, rfl⟩)
      rw [hn0] at *
      generalize decide (V = 0) = d0 at *
      clear MV hcr hw1 t3
      go_loopw [9, 13, 71] (fun v d i wr => ∃ (j cap m : Nat) (dn : Bool) (C : Option Addr) (h' : Hp) (os : List SPair), j ≤ l.length ∧ i = .int .i64 j ∧ d = .bool dn ∧ v = .slice C m cap ∧ Hid (os.length = m) ∧ Hid (G d0 l = os ++ G dn (l.drop j)) ∧ m ≤ 2 * j ∧ Ow kPair h' C cap os ∧ Env w wr [h']) (fun _ _ i _ => l.length - (intOf i).toNat)
      case atStart => exact ⟨0, 0, 0, d0, none, Hp.none, [], by omega, rfl, rfl, rfl, rfl, by unfold Hid; simp, by omega, Ow.none _ _, E1⟩
      case round =>
        clear E1
        obtain ⟨j, cap, m, dn, C, h', os, hj, rfl, rfl, rfl, hm, hg, hm2, o, E⟩ := hrel
        by_cases hlt2 : j < l.length
        · obtain ⟨x, hx⟩ := some_of_lt hlt2
          obtain ⟨b1, o1, rfl, c1, c2, c3⟩ := sx.pair (hd.of_below E.low) hx
          have i1 : (0 : Int) ≤ (j : Int) := by omega
          have i2 : (j : Int) < (l.length : Int) := by omega
          have HD : Hid (G d0 l = os ++ G dn (x :: l.drop (j + 1))) := by unfold Hid; rw [hg.out, drop_next hx]
          have s1 := cmpS_swap x.s s
          have s2 := cmpS_swap x.b bb
          have k1 := cmpB_rng x.s.data.toList s.data.toList
          have k2 := cmpB_rng x.b.data.toList bb.data.toList
          have z1 : cmpS x.s s = 0 ↔ x.s = s := cmpS_eq
          have z2 : cmpS x.b bb = 0 ↔ x.b = bb := cmpS_eq
          change cmpS x.s s = -1 ∨ cmpS x.s s = 0 ∨ cmpS x.s s = 1 at k1
          change cmpS x.b bb = -1 ∨ cmpS x.b bb = 0 ∨ cmpS x.b bb = 1 at k2
          have l1 := blS x.s s
          have l2 := blS x.b bb
          clear hg
          by_cases ha : x.s = s
          · by_cases hb2 : x.b = bb
            · have hk := True.intro
              have t1 : (x.s.toList == s.toList) = true := by rw [ha]; simp
              have t2 : (x.b.toList == bb.toList) = true := by rw [hb2]; simp
              have HN := Lib.hid (HD.out.trans (by rw [GS ha hb2]))
              clear hk GS GK GL HD HG HL s1 s2 k1 k2 z1 z2; (try clear l1 l2); (try clear hl); (try clear hg); (try clear z3); (try clear hb2); clear ha
              go_wp2
              go_roundw
              case rel => exact ⟨j + 1, cap, m, _, C, h', os, by omega, by go_num, rfl, rfl, hm, HN, by omega, o, E.alloc' _⟩
              case measure => simp [intOf]; omega
            · have hk : ¬(x.s = s ∧ x.b = bb) := fun h => hb2 h.2
              cases dn with
              | true =>
                have t1 : (x.s.toList == s.toList) = true := by rw [ha]; simp
                have t2 : (x.b.toList == bb.toList) = false := beq_eq_false_iff_ne.2 fun e => hb2 (tl_inj e)
                have HN : Hid (G d0 l = (os ++ [x]) ++ G true (l.drop (j + 1))) := by unfold Hid; rw [HD.out, GK hk (.inl rfl), appa1]
                clear hk GS GK GL HD HG HL s1 s2 k1 k2 z1 z2; (try clear l1 l2); (try clear hl); (try clear hg); (try clear z3); (try clear hb2); clear ha
                go_wp2_with (at_builtin; refine wpList_eapp 0 x Try.underlying64 info_pair19 (by repeat (first | (with_reducible exact E) | (with_reducible apply Env.drew) | (with_reducible apply Env.drewN) | (with_reducible apply Env.alloc'))) (by rfl) o m hm.out (by rfl) (by rfl) rfl 1 (by rfl) (by rfl) (heap_new_at (by simp)) (by rfl) (by omega) (by omega) ?_; intro C5 n5 w5 h5 o5 E5)
                simp at E5
                go_roundw
                case rel => exact ⟨j + 1, n5, m + 1, _, C5, h5, os ++ [x], by omega, by go_num, rfl, rfl, by unfold Hid; rw [List.length_append, hm.out]; rfl, HN, by omega, o5, E5⟩
                case measure => simp [intOf]; omega
              | false =>
                have z3 : cmpS x.b bb ≠ 0 := fun e => hb2 (z2.1 e)
                by_cases hg : cmpS bb x.b = -1
                · have lx : Op.bytesLess x.b.toList bb.toList = false := by rw [l2]; simp; omega
                  have t1 : (x.s.toList == s.toList) = true := by rw [ha]; simp
                  have t2 : (x.b.toList == bb.toList) = false := beq_eq_false_iff_ne.2 fun e => hb2 (tl_inj e)
                  clear l1 l2
                  have HN : Hid (G d0 l = (os ++ [⟨s, bb, V⟩] ++ [x]) ++ G true (l.drop (j + 1))) := by unfold Hid; rw [HD.out, GL (.inr ⟨ha.symm, hg⟩), appa2]
                  clear hk GS GK GL HD HG HL s1 s2 k1 k2 z1 z2; (try clear l1 l2); (try clear hl); (try clear hg); (try clear z3); (try clear hb2); clear ha
                  have hm3 : Hid ((os ++ [(⟨s, bb, V⟩ : SPair)]).length = m + 1) := by unfold Hid; rw [List.length_append, hm.out]; rfl
                  go_upto_region 18 with fail
                  replace E := E.alloc (.cells #[.string x.s, .string x.b, .int .i64 x.amt] 68)
                  simp at E
                  obtain ⟨W, hW⟩ : ∃ W : World, W = wr.alloc (.cells #[.string x.s, .string x.b, .int .i64 x.amt] 68) := ⟨_, rfl⟩
                  rw [← hW] at E
                  rw [← hW]
                  clear hW
                  have q0 := E.cell 1 rfl 0 rfl
                  have q1 := E.cell 1 rfl 1 rfl
                  have q2 := E.cell 1 rfl 2 rfl
                  generalize wr.heap.size = bw at *
                  clear c1 c2 c3
                  go_wp2_with (first | ((at_builtin; refine wpList_eapp 0 ⟨s, bb, V⟩ Try.underlying64 info_pair19 (by repeat (first | (with_reducible exact E) | (with_reducible apply Env.drew) | (with_reducible apply Env.drewN) | (with_reducible apply Env.alloc'))) (by rfl) o m hm.out (by rfl) (by rfl) rfl 1 (by rfl) (by rfl) (heap_new_at (by simp)) (by rfl) (by omega) (by omega) ?_; intro C5 n5 w5 h5 o5 E5); simp at E5; have r0 := E5.cell 1 rfl 0 rfl; have r1 := E5.cell 1 rfl 1 rfl; have r2 := E5.cell 1 rfl 2 rfl; clear q0 q1 q2) | ((at_builtin; refine wpList_eapp 0 x Try.underlying64 info_pair19 (by repeat (first | (with_reducible exact E5) | (with_reducible apply Env.drew) | (with_reducible apply Env.drewN) | (with_reducible apply Env.alloc'))) (by rfl) o5 (m+1) hm3.out (by rfl) (by rfl) rfl 1 (by rfl) (by rfl) (heap_new_at (by simp)) (by rfl) (by omega) (by omega) ?_; intro C6 n6 w6 h6 o6 E6); replace E6 := E6.drop 1; simp at E6))
                  go_roundw
                  case rel => exact ⟨j + 1, n6, m + 1 + 1, _, C6, h6, os ++ [⟨s, bb, V⟩] ++ [x], by omega, by go_num, rfl, rfl, by unfold Hid; rw [List.length_append, hm3.out]; rfl, HN, by omega, o6, E6⟩
                  case measure => simp [intOf]; omega
                · have lx : Op.bytesLess x.b.toList bb.toList = true := by rw [l2]; simp; omega
                  have hl : ¬(cmpS s x.s = -1 ∨ s = x.s ∧ cmpS bb x.b = -1) := by rintro (h | h); (· rw [ha] at h; rw [cmpS_self] at h; omega); (· exact hg h.2)
                  have t1 : (x.s.toList == s.toList) = true := by rw [ha]; simp
                  have t2 : (x.b.toList == bb.toList) = false := beq_eq_false_iff_ne.2 fun e => hb2 (tl_inj e)
                  clear l1 l2
                  have HN : Hid (G d0 l = (os ++ [x]) ++ G false (l.drop (j + 1))) := by unfold Hid; rw [HD.out, GK hk (.inr hl), appa1]
                  clear hk GS GK GL HD HG HL s1 s2 k1 k2 z1 z2; (try clear l1 l2); (try clear hl); (try clear hg); (try clear z3); (try clear hb2); clear ha
                  go_wp2_with (at_builtin; refine wpList_eapp 0 x Try.underlying64 info_pair19 (by repeat (first | (with_reducible exact E) | (with_reducible apply Env.drew) | (with_reducible apply Env.drewN) | (with_reducible apply Env.alloc'))) (by rfl) o m hm.out (by rfl) (by rfl) rfl 1 (by rfl) (by rfl) (heap_new_at (by simp)) (by rfl) (by omega) (by omega) ?_; intro C5 n5 w5 h5 o5 E5)
                  simp at E5
                  go_roundw
                  case rel => exact ⟨j + 1, n5, m + 1, _, C5, h5, os ++ [x], by omega, by go_num, rfl, rfl, by unfold Hid; rw [List.length_append, hm.out]; rfl, HN, by omega, o5, E5⟩
                  case measure => simp [intOf]; omega
          · have hk : ¬(x.s = s ∧ x.b = bb) := fun h => ha h.1
            cases dn with
            | true =>
              have t1 : (x.s.toList == s.toList) = false := beq_eq_false_iff_ne.2 fun e => ha (tl_inj e)
              have HN : Hid (G d0 l = (os ++ [x]) ++ G true (l.drop (j + 1))) := by unfold Hid; rw [HD.out, GK hk (.inl rfl), appa1]
              clear hk GS GK GL HD HG HL s1 s2 k1 k2 z1 z2; (try clear l1 l2); (try clear hl); (try clear hg); (try clear z3); (try clear hb2); clear ha
              go_wp2_with (at_builtin; refine wpList_eapp 0 x Try.underlying64 info_pair19 (by repeat (first | (with_reducible exact E) | (with_reducible apply Env.drew) | (with_reducible apply Env.drewN) | (with_reducible apply Env.alloc'))) (by rfl) o m hm.out (by rfl) (by rfl) rfl 1 (by rfl) (by rfl) (heap_new_at (by simp)) (by rfl) (by omega) (by omega) ?_; intro C5 n5 w5 h5 o5 E5)
              simp at E5
              go_roundw
              case rel => exact ⟨j + 1, n5, m + 1, _, C5, h5, os ++ [x], by omega, by go_num, rfl, rfl, by unfold Hid; rw [List.length_append, hm.out]; rfl, HN, by omega, o5, E5⟩
              case measure => simp [intOf]; omega
            | false =>
              have z3 : cmpS x.s s ≠ 0 := fun e => ha (z1.1 e)
              by_cases hg : cmpS s x.s = -1
              · have lx : Op.bytesLess x.s.toList s.toList = false := by rw [l1]; simp; omega
                have t1 : (x.s.toList == s.toList) = false := beq_eq_false_iff_ne.2 fun e => ha (tl_inj e)
                clear l1 l2
                have HN : Hid (G d0 l = (os ++ [⟨s, bb, V⟩] ++ [x]) ++ G true (l.drop (j + 1))) := by unfold Hid; rw [HD.out, GL (.inl hg), appa2]
                clear hk GS GK GL HD HG HL s1 s2 k1 k2 z1 z2; (try clear l1 l2); (try clear hl); (try clear hg); (try clear z3); (try clear hb2); clear ha
                have hm3 : Hid ((os ++ [(⟨s, bb, V⟩ : SPair)]).length = m + 1) := by unfold Hid; rw [List.length_append, hm.out]; rfl
                go_upto_region 18 with fail
                replace E := E.alloc (.cells #[.string x.s, .string x.b, .int .i64 x.amt] 68)
                simp at E
                obtain ⟨W, hW⟩ : ∃ W : World, W = wr.alloc (.cells #[.string x.s, .string x.b, .int .i64 x.amt] 68) := ⟨_, rfl⟩
                rw [← hW] at E
                rw [← hW]
                clear hW
                have q0 := E.cell 1 rfl 0 rfl
                have q1 := E.cell 1 rfl 1 rfl
                have q2 := E.cell 1 rfl 2 rfl
                generalize wr.heap.size = bw at *
                clear c1 c2 c3
                go_wp2_with (first | ((at_builtin; refine wpList_eapp 0 ⟨s, bb, V⟩ Try.underlying64 info_pair19 (by repeat (first | (with_reducible exact E) | (with_reducible apply Env.drew) | (with_reducible apply Env.drewN) | (with_reducible apply Env.alloc'))) (by rfl) o m hm.out (by rfl) (by rfl) rfl 1 (by rfl) (by rfl) (heap_new_at (by simp)) (by rfl) (by omega) (by omega) ?_; intro C5 n5 w5 h5 o5 E5); simp at E5; have r0 := E5.cell 1 rfl 0 rfl; have r1 := E5.cell 1 rfl 1 rfl; have r2 := E5.cell 1 rfl 2 rfl; clear q0 q1 q2) | ((at_builtin; refine wpList_eapp 0 x Try.underlying64 info_pair19 (by repeat (first | (with_reducible exact E5) | (with_reducible apply Env.drew) | (with_reducible apply Env.drewN) | (with_reducible apply Env.alloc'))) (by rfl) o5 (m+1) hm3.out (by rfl) (by rfl) rfl 1 (by rfl) (by rfl) (heap_new_at (by simp)) (by rfl) (by omega) (by omega) ?_; intro C6 n6 w6 h6 o6 E6); replace E6 := E6.drop 1; simp at E6))
                go_roundw
                case rel => exact ⟨j + 1, n6, m + 1 + 1, _, C6, h6, os ++ [⟨s, bb, V⟩] ++ [x], by omega, by go_num, rfl, rfl, by unfold Hid; rw [List.length_append, hm3.out]; rfl, HN, by omega, o6, E6⟩
                case measure => simp [intOf]; omega
              · have lx : Op.bytesLess x.s.toList s.toList = true := by rw [l1]; simp; omega
                have hl : ¬(cmpS s x.s = -1 ∨ s = x.s ∧ cmpS bb x.b = -1) := by rintro (h | h); (· exact hg h); (· exact ha h.1.symm)
                have t1 : (x.s.toList == s.toList) = false := beq_eq_false_iff_ne.2 fun e => ha (tl_inj e)
                clear l1 l2
                have HN : Hid (G d0 l = (os ++ [x]) ++ G false (l.drop (j + 1))) := by unfold Hid; rw [HD.out, GK hk (.inr hl), appa1]
                clear hk GS GK GL HD HG HL s1 s2 k1 k2 z1 z2; (try clear l1 l2); (try clear hl); (try clear hg); (try clear z3); (try clear hb2); clear ha
                go_wp2_with (at_builtin; refine wpList_eapp 0 x Try.underlying64 info_pair19 (by repeat (first | (with_reducible exact E) | (with_reducible apply Env.drew) | (with_reducible apply Env.drewN) | (with_reducible apply Env.alloc'))) (by rfl) o m hm.out (by rfl) (by rfl) rfl 1 (by rfl) (by rfl) (heap_new_at (by simp)) (by rfl) (by omega) (by omega) ?_; intro C5 n5 w5 h5 o5 E5)
                simp at E5
                go_roundw
                case rel => exact ⟨j + 1, n5, m + 1, _, C5, h5, os ++ [x], by omega, by go_num, rfl, rfl, by unfold Hid; rw [List.length_append, hm.out]; rfl, HN, by omega, o5, E5⟩
                case measure => simp [intOf]; omega
        · obtain rfl : j = l.length := by omega
          rw [List.drop_length] at hg
          have hfr := fun n => (E.low.frozen (p := ⟨b, n, none⟩) hlt).trans (hfz n)
          have hcr := (E.low.cell (p := ⟨b, 0, none⟩) hlt).trans hc
          have HGo := HG dn
          clear HG HL GS GK GL
          cases dn with
          | true =>
            have HN : Hid (G d0 l = os) := by unfold Hid; rw [hg.out, HGo.out, if_pos rfl, List.append_nil]
            have hml := hm
            clear hg HGo
            by_cases h8 : 8 < m
            · have HE1 : Hid (addE l s bb n = 5) := by unfold Hid; rw [HE3.out, if_pos (by rw [HN.out, hml.out]; exact h8)]
              have t5 : decide ((8 : Int) < ((m : Nat) : Int)) = true := by simp; omega
              skip
              go_wp2
              go_ret
              exact NO HE1.out (by decide) E.low
            · have HE0 : Hid (addE l s bb n = 0) := by unfold Hid; rw [HE3.out, if_neg (by rw [HN.out, hml.out]; exact h8)]
              have HRe : Hid (addW l s bb n = os) := by unfold Hid; rw [HRR.out HE0.out, HN.out]
              clear HE3 HRR
              go_wp2
              obtain ⟨UF, hn3⟩ := Upd.field (v := .slice C (m) cap) 0 hb hs (Hp.none_le _) (E.made (h := h') (by simp))
              go_ret
              exact ⟨_, by rw [HE0.out]; rfl, ⟨_, Hp.put_self, C, cap, by rw [HRe.out, hml.out]; rfl, by rw [Hp.put_del hn3, HRe.out]; exact o⟩, UF⟩
          | false =>
            have HN : Hid (G d0 l = os ++ [⟨s, bb, V⟩]) := by unfold Hid; rw [hg.out, HGo.out, if_neg (by decide)]
            have hml : Hid ((os ++ [(⟨s, bb, V⟩ : SPair)]).length = m + 1) := by unfold Hid; rw [List.length_append, hm.out]; rfl
            clear hg HGo
            by_cases h8 : 8 < m + 1
            · have HE1 : Hid (addE l s bb n = 5) := by unfold Hid; rw [HE3.out, if_pos (by rw [HN.out, hml.out]; exact h8)]
              have t5 : decide ((8 : Int) < (m : Int) + 1) = true := by simp; omega
              clear HE3 HRR
              go_wp2_with ((at_builtin; refine wpList_eapp 0 ⟨s, bb, V⟩ Try.underlying64 info_pair19 (by repeat (first | (with_reducible exact E) | (with_reducible apply Env.drew) | (with_reducible apply Env.drewN) | (with_reducible apply Env.alloc'))) (by rfl) o m hm.out (by rfl) (by rfl) rfl 1 (by rfl) (by rfl) (heap_new_at (by simp)) (by rfl) (by omega) (by omega) ?_; intro C5 n5 w5 h5 o5 E5); simp at E5; have hcr5 := (E5.low.cell (p := ⟨b, 0, none⟩) hlt).trans hc; have hfr5 := fun n => (E5.low.frozen (p := ⟨b, n, none⟩) hlt).trans (hfz n))
              go_ret
              exact NO HE1.out (by decide) E5.low
            · have HE1 : Hid (addE l s bb n = 0) := by unfold Hid; rw [HE3.out, if_neg (by rw [HN.out, hml.out]; exact h8)]
              have t5 : decide ((8 : Int) < (m : Int) + 1) = false := by simp; omega
              have HRe : Hid (addW l s bb n = os ++ [⟨s, bb, V⟩]) := by unfold Hid; rw [HRR.out HE1.out, HN.out]
              clear HE3 HRR
              go_wp2_with ((at_builtin; refine wpList_eapp 0 ⟨s, bb, V⟩ Try.underlying64 info_pair19 (by repeat (first | (with_reducible exact E) | (with_reducible apply Env.drew) | (with_reducible apply Env.drewN) | (with_reducible apply Env.alloc'))) (by rfl) o m hm.out (by rfl) (by rfl) rfl 1 (by rfl) (by rfl) (heap_new_at (by simp)) (by rfl) (by omega) (by omega) ?_; intro C5 n5 w5 h5 o5 E5); simp at E5; have hcr5 := (E5.low.cell (p := ⟨b, 0, none⟩) hlt).trans hc; have hfr5 := fun n => (E5.low.frozen (p := ⟨b, n, none⟩) hlt).trans (hfz n))
              obtain ⟨UF, hn3⟩ := Upd.field (v := .slice C5 (m + 1) n5) 0 hb hs (Hp.none_le _) (E5.made (h := h5) (by simp))
              go_ret
              exact ⟨_, by rw [HE1.out]; rfl, ⟨_, Hp.put_self, C5, n5, by rw [HRe.out, hml.out]; rfl, by rw [Hp.put_del hn3, HRe.out]; exact o5⟩, UF⟩
end Go.Proofs.Ytdcfojohgcmpcaa
end
section
/- Rates as they are known, plain. No program is named here. -/
namespace Go.Sl
open Go Go.RowKit
def perOk (p : Int) : Bool := decide (0 ≤ p ∧ p ≤ 399)
def yearOf (p : Int) : Int := if perOk p then p / 4 else -1
def isR (j : ByteArray) (y at' : Int) (x : SRate) : Bool := decide (x.j = j ∧ x.yr = y ∧ x.per = at')
def tabArg (j : ByteArray) (y r at' : Int) : Bool := !noS j && (decide (0 ≤ y ∧ y ≤ 99) && (rightRate r && perOk at'))
def tabE (l : List SRate) (j : ByteArray) (y r at' : Int) : Int :=
  if tabArg j y r at' = false then 1 else if l.any (isR j y at') = true then 4 else if 24 ≤ l.length then 5 else 0
def tabAdd (l : List SRate) (j : ByteArray) (y r at' : Int) : List SRate := if tabE l j y r at' = 0 then l ++ [⟨j, y, r, at'⟩] else l
/-- Which row is the best one so far. -/
def better (j : ByteArray) (y at' : Int) (best : Option SRate) (x : SRate) : Option SRate :=
  if x.j = j ∧ ¬ y < x.yr ∧ ¬ at' < x.per then
    match best with
    | none => some x
    | some b => if b.yr < x.yr ∨ (x.yr = b.yr ∧ b.per < x.per) then some x else some b
  else best
def stepIn (best : Option SRate) (x : SRate) : Option SRate := match best with | none => some x | some b => if b.yr < x.yr ∨ (x.yr = b.yr ∧ b.per < x.per) then some x else some b
theorem better_in {j : ByteArray} {y at' : Int} {best : Option SRate} {x : SRate} (h1 : x.j = j) (h2 : ¬ y < x.yr) (h3 : ¬ at' < x.per) : better j y at' best x = stepIn best x := by unfold better stepIn; rw [if_pos ⟨h1, h2, h3⟩]
def bestR (l : List SRate) (j : ByteArray) (y at' : Int) : Option SRate := l.foldl (better j y at') none
def rateV (l : List SRate) (j : ByteArray) (y at' : Int) : Int := match bestR l j y at' with | some b => b.rt | none => 0
def rateB (l : List SRate) (j : ByteArray) (y at' : Int) : Bool := (bestR l j y at').isSome
/-- What holds of all tables. -/
structure GoodT (l : List SRate) : Prop where
  arg : ∀ x ∈ l, tabArg x.j x.yr x.rt x.per = true
  dist : l.Pairwise fun x y => ¬ (x.j = y.j ∧ x.yr = y.yr ∧ x.per = y.per)
  len : l.length ≤ 24
theorem GoodT.nil : GoodT [] := ⟨by simp, List.Pairwise.nil, by simp⟩
section
variable {l : List SRate} {j : ByteArray} {y r at' : Int}
theorem tabE_ok (h : tabE l j y r at' = 0) : tabArg j y r at' = true ∧ l.any (isR j y at') = false ∧ l.length < 24 := by
  unfold tabE at h
  split at h
  · cases h
  · rename_i h1
    split at h
    · cases h
    · rename_i h2
      split at h
      · cases h
      · exact ⟨by simpa using h1, by simpa using h2, by omega⟩
theorem GoodT.add (g : GoodT l) (j : ByteArray) (y r at' : Int) : GoodT (tabAdd l j y r at') := by
  unfold tabAdd
  split
  · rename_i h
    obtain ⟨h1, h2, h3⟩ := tabE_ok h
    refine ⟨fun x hx => ?_, List.pairwise_append.2 ⟨g.dist, by simp, fun a ha b hb => ?_⟩, by simp; omega⟩
    · rcases List.mem_append.1 hx with hx | hx
      · exact g.arg x hx
      · simp at hx; subst hx; exact h1
    · simp at hb; subst hb
      rw [List.any_eq_false] at h2
      have := h2 a ha
      simpa [isR] using this
  · exact g
theorem bestR_snoc {x : SRate} {i : Nat} (hx : Hid (l[i]? = some x)) : bestR (l.take (i + 1)) j y at' = better j y at' (bestR (l.take i) j y at') x := by
  unfold bestR; rw [take_next hx, List.foldl_append]; rfl
theorem better_mem {b : Option SRate} {x z : SRate} (h : better j y at' b x = some z) : z = x ∨ b = some z := by
  unfold better at h
  split at h
  · cases b with
    | none => simp at h; exact .inl h.symm
    | some b => simp at h; split at h
                · simp at h; exact .inl h.symm
                · exact .inr h
  · exact .inr h
theorem bestR_mem : ∀ {l : List SRate} {z : SRate}, bestR l j y at' = some z → z ∈ l := by
  intro l
  have key : ∀ (l : List SRate) (b : Option SRate) (z : SRate), l.foldl (better j y at') b = some z → z ∈ l ∨ b = some z := by
    intro l
    induction l with
    | nil => intro b z h; exact .inr h
    | cons x l ih =>
      intro b z h
      rcases ih _ _ h with h1 | h1
      · exact .inl (by simp [h1])
      · rcases better_mem h1 with rfl | h2
        · exact .inl (by simp)
        · exact .inr h2
  intro z h
  rcases key l none z h with h1 | h1
  · exact h1
  · cases h1
theorem rateV_bd (g : GoodT l) : rightRate (rateV l j y at') = true := by
  unfold rateV
  split
  · rename_i b hb
    have := g.arg b (bestR_mem hb)
    simp [tabArg] at this
    exact this.2.2.1
  · rfl
/-- Of good rows those ahead of one take it on behind them. -/
theorem GoodT.next (g : GoodT l) {i : Nat} {x : SRate} (hx : l[i]? = some x) : tabE (l.take i) x.j x.yr x.rt x.per = 0 ∧ tabAdd (l.take i) x.j x.yr x.rt x.per = l.take (i + 1) := by
  have hlt := (List.getElem?_eq_some_iff.1 hx).1
  have hno : (l.take i).any (isR x.j x.yr x.per) = false := by
    rw [List.any_eq_false]; intro z hz h
    obtain ⟨k, hk⟩ := List.mem_iff_getElem?.1 hz
    have hki : k < i := by
      have := (List.getElem?_eq_some_iff.1 hk).1
      rw [List.length_take] at this; omega
    rw [List.getElem?_take, if_pos hki] at hk
    have := List.pairwise_iff_getElem.1 g.dist k i (by omega) hlt hki
    rw [List.getElem?_eq_some_iff] at hk hx
    rw [hk.2, hx.2] at this
    exact this (by simpa [isR] using h)
  have hE : tabE (l.take i) x.j x.yr x.rt x.per = 0 := by
    have := g.len
    unfold tabE
    rw [if_neg (by rw [g.arg x (List.mem_of_getElem? hx)]; decide), if_neg (by rw [hno]; decide), if_neg (by rw [List.length_take]; omega)]
  refine ⟨hE, ?_⟩
  unfold tabAdd
  rw [if_pos hE, take_next (x := x) hx]
end
end Go.Sl
end
section
/- Deferred tax, plain. No program is named here. -/
namespace Go.Sl
open Go Go.RowKit
def ratOk (l : List SRate) (j : ByteArray) (at' : Int) (x : STri) : Bool := rateB l j (max x.b (yearOf at')) at'
def ratOf (l : List SRate) (j : ByteArray) (at' : Int) (x : STri) : Int := rateV l j (max x.b (yearOf at')) at'
def ratE (l : List SRate) (j : ByteArray) (xs : List STri) (at' : Int) : Int := if perOk at' = false then 1 else if xs.all (ratOk l j at') = true then 0 else 7
def ratL (l : List SRate) (j : ByteArray) (xs : List STri) (at' : Int) : List Int := xs.map (ratOf l j at')
def nextY (at' : Int) : Int := min (yearOf at' + 1) 99
def nextE (l : List SRate) (j : ByteArray) (at' : Int) : Int := if perOk at' = false then 1 else if rateB l j (nextY at') at' = true then 0 else 7
def nextV (l : List SRate) (j : ByteArray) (at' : Int) : Int := if nextE l j at' = 0 then rateV l j (nextY at') at' else 0
def shareE (n r : Int) : Int := if (decide (0 ≤ n) && (money n && rightRate r)) = true then 0 else 1
def shareV (n r : Int) : Int := if shareE n r = 0 then ofVal n r else 0
section
variable {l : List SRate} {j : ByteArray} {xs : List STri} {at' : Int}
theorem ratE_bad {i : Nat} {x : STri} (hp : perOk at' = true) (hx : xs[i]? = some x) (h : ratOk l j at' x = false) : ratE l j xs at' = 7 := by
  unfold ratE
  rw [if_neg (by rw [hp]; decide), if_neg]
  intro ha
  rw [List.all_eq_true.1 ha x (List.mem_of_getElem? hx)] at h; cases h
theorem ratE_ok (hp : perOk at' = true) (h : ∀ x ∈ xs, ratOk l j at' x = true) : ratE l j xs at' = 0 := by
  unfold ratE
  rw [if_neg (by rw [hp]; decide), if_pos (List.all_eq_true.2 h)]
theorem ratL_snoc {i : Nat} {x : STri} (hx : Hid (xs[i]? = some x)) : ratL l j (xs.take (i + 1)) at' = ratL l j (xs.take i) at' ++ [ratOf l j at' x] := by
  unfold ratL; rw [take_next hx, List.map_append]; rfl
theorem ratL_right (g : GoodT l) : ∀ r ∈ ratL l j xs at', rightRate r = true := fun r hr => by
  obtain ⟨x, _, rfl⟩ := List.mem_map.1 hr
  exact rateV_bd g
theorem yearOf_bd (p : Int) : -1 ≤ yearOf p ∧ yearOf p ≤ 99 := by
  unfold yearOf
  split
  · rename_i h; simp [perOk] at h; omega
  · omega
end
end Go.Sl
end
section
/- The walk of ref09.Share. -/
namespace Go.Proofs.Ytdcfojohgcmpcaa
open Go.RowKit Go.Sl
set_option maxHeartbeats 2000000
set_option maxRecDepth 100000
theorem refShare_calls (n r : Int) (w : World) : Calls Try.prog 85 #[.int .i64 n, .int .i64 r] w fun e w' => e = .returned (.tuple #[.int .i64 (shareV n r), .int .i64 (shareE n r)]) ∧ w = w' := by
  have RC := fun W : World => refRight_calls r W
  have OC := fun W : World => refPart_calls n r W
  have HE : Hid (shareE n r = if (decide (0 ≤ n) && (money n && rightRate r)) = true then 0 else 1) := rfl
  have HV : Hid (shareV n r = if shareE n r = 0 then ofVal n r else 0) := rfl
  generalize ofVal n r = ov at *
  by_cases hn : n < 0
  · have HE1 : Hid (shareE n r = 1) := by unfold Hid; rw [HE.out, if_neg (by simp; omega)]
    have HV1 : Hid (shareV n r = 0) := by unfold Hid; rw [HV.out, if_neg (by rw [HE1.out]; decide)]
    clear RC OC HE HV
    go_enter Try.func85, Try.ntmps85
    go_wp2
    go_ret2
    exact ⟨by rw [HE1.out, HV1.out]; rfl, rfl⟩
  by_cases hm : 100000000000 < n
  · have HE1 : Hid (shareE n r = 1) := by unfold Hid; rw [HE.out, if_neg (by simp [money]; omega)]
    have HV1 : Hid (shareV n r = 0) := by unfold Hid; rw [HV.out, if_neg (by rw [HE1.out]; decide)]
    clear RC OC HE HV
    go_enter Try.func85, Try.ntmps85
    go_wp2
    go_ret2
    exact ⟨by rw [HE1.out, HV1.out]; rfl, rfl⟩
  cases hr : rightRate r with
  | false =>
    have HE1 : Hid (shareE n r = 1) := by unfold Hid; rw [HE.out, hr, if_neg (by simp)]
    have HV1 : Hid (shareV n r = 0) := by unfold Hid; rw [HV.out, if_neg (by rw [HE1.out]; decide)]
    rw [hr] at RC
    clear OC HE HV hr
    go_enter Try.func85, Try.ntmps85
    go_wp2_with fail
    refine (RC _).mono ?_
    rintro e w' ⟨rfl, rfl⟩
    go_wp2
    go_ret2
    exact ⟨by rw [HE1.out, HV1.out]; rfl, rfl⟩
  | true =>
    have HE1 : Hid (shareE n r = 0) := by unfold Hid; rw [HE.out, hr, if_pos (by simp [money]; omega)]
    have HV1 : Hid (shareV n r = ov) := by unfold Hid; rw [HV.out, if_pos HE1.out]
    rw [hr] at RC
    clear HE HV hr
    go_enter Try.func85, Try.ntmps85
    go_wp2_with fail
    refine (RC _).mono ?_
    rintro e w' ⟨rfl, rfl⟩
    go_wp2_with fail
    refine (OC _).mono ?_
    rintro e w' ⟨rfl, rfl⟩
    go_wp2
    go_ret2
    exact ⟨by rw [HE1.out, HV1.out]; rfl, rfl⟩
end Go.Proofs.Ytdcfojohgcmpcaa
end
section
/- The walk of ref19.Asset. -/
namespace Go.Sl
theorem share_as (x : SPair) (r : Int) : (assOk x r = true → shareE x.amt r = 0 ∧ shareV x.amt r = ofVal x.amt r) ∧ (assOk x r = false → shareE x.amt r = 1 ∧ shareV x.amt r = 0) := by
  have h : assOk x r = (decide (0 ≤ x.amt) && (money x.amt && rightRate r)) := by
    unfold assOk
    rw [show (!decide (x.amt < 0)) = decide (0 ≤ x.amt) by rw [Bool.eq_iff_iff]; simp]
    cases rightRate r <;> cases money x.amt <;> simp
  rw [h]
  have e : shareE x.amt r = if (decide (0 ≤ x.amt) && (money x.amt && rightRate r)) = true then 0 else 1 := rfl
  refine ⟨fun h1 => ?_, fun h1 => ?_⟩
  · have e1 : shareE x.amt r = 0 := by rw [e, if_pos h1]
    exact ⟨e1, by unfold shareV; rw [if_pos e1]⟩
  · have e1 : shareE x.amt r = 1 := by rw [e, h1, if_neg (by decide)]
    exact ⟨e1, by unfold shareV; rw [if_neg (by omega)]⟩
end Go.Sl
namespace Go.Proofs.Ytdcfojohgcmpcaa
open Go.RowKit Go.Sl
set_option maxHeartbeats 2000000
set_option maxRecDepth 100000
theorem refAsset_calls (A D : Option Addr) (ca cd : Nat) (xs : List SPair) (rs : List Int) (h p : Hp) (w : World) (hs : h.sub w) (ps : p.sub w) (sx : Sl kPair h A ca xs) (so : Sl kInt p D cd rs) (hx : xs.length ≤ 1000) :
    Calls Try.prog 34 #[.slice A xs.length ca, .slice D rs.length cd] w fun e w' => e = .returned (.tuple #[.int .i64 (assN xs rs), .int .i64 (assE xs rs)]) ∧ Below w.heap.size w w' := by
  have m3 := so.small
  go_enter Try.func34, Try.ntmps34
  by_cases hlen : rs.length = xs.length
  · have L1 := Lib.hid hlen
    have t1 : ((xs.length : Int) != (rs.length : Int)) = false := by simp [hlen]
    have HE : Hid (assE xs rs = if assAll xs rs = false then 1 else if money (assS xs rs) = false then 6 else 0) := by
      unfold Hid assE; rw [if_neg (by omega)]
    clear hlen
    go_wp2
    go_loopw [6, 18] (fun s i wr => ∃ (j : Nat) (M : Int), j ≤ xs.length ∧ i = .int .i64 j ∧ s = .int .i64 M ∧ Hid (assAll (xs.take j) (rs.take j) = true) ∧ Hid (M = assS (xs.take j) (rs.take j)) ∧ Below w.heap.size w wr) (fun _ i _ => xs.length - (intOf i).toNat)
    case atStart => exact ⟨0, 0, by omega, rfl, rfl, rfl, rfl, Below.refl _ _⟩
    case round =>
      obtain ⟨j, M, hj, rfl, rfl, ha, hM, hb⟩ := hrel
      have hb1 := assS_bd (xs.take j) (rs.take j)
      rw [← hM.out, List.length_take] at hb1
      have HB : -4000000000001000 ≤ M ∧ M ≤ 4000000000001000 := by omega
      clear hb1
      obtain ⟨q1, q2⟩ := HB
      by_cases hlt : j < xs.length
      · obtain ⟨x, hxx⟩ := some_of_lt hlt
        obtain ⟨r, hrr⟩ := some_of_lt (show j < rs.length by rw [L1.out]; exact hlt)
        obtain ⟨b1, o1, rfl, c1, c2, c3⟩ := sx.pair (hs.of_below hb) hxx
        obtain ⟨b2, o2, rfl, d1⟩ := so.int (ps.of_below hb) hrr
        have i1 : (0 : Int) ≤ (j : Int) := by omega
        have i2 : (j : Int) < (xs.length : Int) := by omega
        have i3 : (j : Int) < (rs.length : Int) := by rw [L1.out]; omega
        obtain ⟨q3, q4⟩ := ofVal_bd x.amt r
        have hll : (xs.take j).length = (rs.take j).length := by rw [List.length_take, List.length_take, L1.out]
        have HTa : Hid (assAll (xs.take (j + 1)) (rs.take (j + 1)) = assOk x r) := by
          unfold Hid; rw [take_next hxx, take_next hrr, assAll_snoc hll, ha.out]; rfl
        have HTm : Hid (assS (xs.take (j + 1)) (rs.take (j + 1)) = M + ofVal x.amt r) := by
          unfold Hid; rw [take_next hxx, take_next hrr, assS_snoc hll, hM.out]
        clear hll
        have HNo : assOk x r = false → Hid (assE xs rs = 1) := fun h => by
          unfold Hid; rw [HE.out, if_pos (assAll_no hxx.out hrr.out h)]
        have SC := fun W => refShare_calls x.amt r W
        obtain ⟨sh1, sh2⟩ := share_as x r
        generalize ofVal x.amt r = v1 at *
        generalize shareE x.amt r = se at *
        generalize shareV x.amt r = sv at *
        go_upto_region 7 with fail
        obtain ⟨W, hW⟩ : ∃ W : World, W = wr.alloc (.cells #[.string x.s, .string x.b, .int .i64 x.amt] 68) := ⟨_, rfl⟩
        have BW : Below wr.heap.size wr W := by rw [hW]; exact (Below.refl _ _).alloc (Nat.le_refl _) _
        have q2' : W.cell? ⟨wr.heap.size, 2, none⟩ = some (.int .i64 x.amt) := by rw [hW, cell_new rfl]; rfl
        have d1W : W.cell? ⟨b2, o2 + j, none⟩ = some (.int .i64 r) := (BW.cell (World.block_lt_of_cell? _ _ d1)).trans d1
        have bW := hb.trans (BW.mono hb.size)
        rw [← hW]
        clear hW c1 c2 c3 d1
        generalize wr.heap.size = bw at *
        cases e0 : assOk x r with
        | false =>
          have HE1 := HNo e0
          have HN1 : Hid (assN xs rs = 0) := by unfold Hid assN; rw [HE1.out]; rfl
          obtain ⟨rfl, rfl⟩ := sh2 e0
          clear HNo HTa HTm e0 sh1 sh2
          go_quiet ((go_at_call 85; (first | exact quiet_one (SC _) | exact quiet_more (SC _))))
          go_wp2
          go_ret2
          exact ⟨by rw [HE1.out, HN1.out]; rfl, (by repeat (first | (with_reducible exact bW) | (with_reducible apply Below.drew) | (with_reducible apply Below.drN)))⟩
        | true =>
          obtain ⟨rfl, rfl⟩ := sh1 e0
          rw [e0] at HTa
          clear HNo e0 sh1 sh2
          go_quiet ((go_at_call 85; (first | exact quiet_one (SC _) | exact quiet_more (SC _))))
          go_wp2
          go_roundw
          case rel => exact ⟨j + 1, M + sv, by omega, by go_num, by go_num, HTa, HTm.symm, (by repeat (first | (with_reducible exact bW) | (with_reducible apply Below.drew) | (with_reducible apply Below.drN)))⟩
          case measure => simp [intOf]; omega
      · obtain rfl : j = xs.length := by omega
        rw [List.take_length, List.take_of_length_le (Nat.le_of_eq L1.out)] at ha hM
        have M1 := fun W => refMoney_calls M W
        have HE2 : Hid (assE xs rs = if money M = false then 6 else 0) := by unfold Hid; rw [HE.out, ha.out, ← hM.out]; rfl
        cases e1 : money M with
        | false =>
          have HE1 : Hid (assE xs rs = 6) := by unfold Hid; rw [HE2.out, e1]; rfl
          have HN1 : Hid (assN xs rs = 0) := by unfold Hid assN; rw [HE1.out]; rfl
          rw [e1] at M1
          clear e1 HE2
          go_wp2_with (go_at_call 84; refine (M1 _).mono ?_; rintro e w' ⟨rfl, rfl⟩)
          go_ret2
          exact ⟨by rw [HE1.out, HN1.out]; rfl, hb⟩
        | true =>
          have HE1 : Hid (assE xs rs = 0) := by unfold Hid; rw [HE2.out, e1]; rfl
          have HN1 : Hid (assN xs rs = M) := by unfold Hid assN; rw [HE1.out, if_pos rfl, ← hM.out]
          rw [e1] at M1
          clear e1 HE2
          go_wp2_with (go_at_call 84; refine (M1 _).mono ?_; rintro e w' ⟨rfl, rfl⟩)
          go_ret2
          exact ⟨by rw [HE1.out, HN1.out]; rfl, hb⟩
  · have HE : Hid (assE xs rs = 1) := by unfold Hid assE; rw [if_pos (by omega)]
    have HN : Hid (assN xs rs = 0) := by unfold Hid assN; rw [HE.out]; rfl
    have t1 : ((xs.length : Int) != (rs.length : Int)) = true := by simp; omega
    clear hlen
    go_wp2
    go_ret2
    exact ⟨by rw [HE.out, HN.out]; rfl, Below.refl _ _⟩
end Go.Proofs.Ytdcfojohgcmpcaa
end
section
/- '!=' of the reference's Pair. -/
namespace Go.Proofs.Ytdcfojohgcmpcaa
open Go.RowKit Go.Sl
set_option maxHeartbeats 1000000
set_option maxRecDepth 100000
theorem equalIn_pair19 (d : Nat) (x0 y0 : ByteArray) (x1 y1 : ByteArray) (x2 y2 : Int) (w : World) : (Op.equalIn (d + 2) 68 (.agg #[.string x0, .string x1, .int .i64 x2]) (.agg #[.string y0, .string y1, .int .i64 y2])).run Try.prog w = .ok ((x0.toList == y0.toList) && ((x1.toList == y1.toList) && ((x2 == y2) && (true)))) w := by
  refine equalIn_struct (d := d + 1) Try.underlying68 (by kernel_rfl) ?_
  refine eqFields_cons (by rfl) (by go_simp) (by go_simp) (run_equalIn_string _ _ _ _ _ Try.underlying9) ?_
  refine eqFields_cons (by rfl) (by go_simp) (by go_simp) (run_equalIn_string _ _ _ _ _ Try.underlying9) ?_
  refine eqFields_cons (by rfl) (by go_simp; rfl) (by go_simp; rfl) (by go_simp) ?_
  exact eqFields_nil
theorem ne_pair19 (x : SPair) (w : World) : (binOp .neq 68 (.agg #[.string x.s, .string x.b, .int .i64 x.amt]) (.agg #[.string x.s, .string x.b, .int .i64 x.amt])).run Try.prog w = .ok (.bool false) w := by
  have h := equalIn_pair19 9998 x.s x.s x.b x.b x.amt x.amt w
  simp only [Nat.reduceAdd] at h
  rw [neq_struct h]; simp
end Go.Proofs.Ytdcfojohgcmpcaa
end
section
/- The walk of law24.CrossPlays. -/
namespace Go.Proofs.Ytdcfojohgcmpcaa
open Go.RowKit Go.Sl
set_option maxHeartbeats 1000000
set_option maxRecDepth 100000
theorem crossClone_calls (b : Nat) (l : List SPair) (h : Hp) (w : World) (hs : h.sub w) (p : Pt (kOne kPair) 122 h b l) (hl : l.length ≤ 1000000) :
    Calls Try.prog 31 #[.pointer (some ⟨b, 0, none⟩)] w fun e w' => ∃ h' b', e = .returned (.pointer (some ⟨b', 0, none⟩)) ∧ Pt (kOne kPair) 122 h' b' l ∧ Upd Hp.none h' w w' := by
  have RC := crossRows_calls b l h w hs p hl
  go_enter Try.func31, Try.ntmps31
  go_wp2_with fail
  refine RC.mono ?_
  rintro e w1 ⟨C, cap, h1, rfl, o1, u1⟩
  go_wp2
  go_ret
  exact ⟨_, _, rfl, ⟨_, Hp.put_self, C, cap, rfl, by rw [Hp.put_del (u1.sub.free (Nat.le_refl _))]; exact o1⟩, u1.put⟩
structure Rcx (h : Hp) (b : Nat) (l : List SPair) : Prop where
  pt : PtX h b l
  good : GoodP l
theorem Rcx.box (b : Nat) : Rcx (Hp.box b [.slice none 0 0] 66) b [] := ⟨⟨_, Hp.one_self _ _, none, 0, rfl, Ow.none _ _⟩, .nil⟩
section
variable {w0 w : World} {l : List Hp} {h k p : Hp} {b : Nat} {xs : List SPair} {rs : List Int} {A D : Option Addr} {ca cd : Nat}
theorem Crs.clone (S : Crs h b xs) (E : Env w0 w l) (i : Nat) (hi : l[i]? = some h) :
    Calls Try.prog 31 #[.pointer (some ⟨b, 0, none⟩)] w fun e w' => ∃ h' b', e = .returned (.pointer (some ⟨b', 0, none⟩)) ∧ Crs h' b' xs ∧ Env w0 w' (l ++ [h']) :=
  (crossClone_calls b xs h w (E.sub i hi) S.pt (by have := S.good.len; omega)).mono fun _ _ ⟨h', b', he, hp, u⟩ => ⟨h', b', he, ⟨hp, S.good⟩, E.new u⟩
theorem Rcx.add (S : Rcx h b xs) (E : Env w0 w l) (i : Nat) (hi : l[i]? = some h) (s bb : ByteArray) (n : Int) {q : Int} {ys : List SPair} (hE : addE xs s bb n = q ∧ addW xs s bb n = ys) :
    Calls Try.prog 32 #[.pointer (some ⟨b, 0, none⟩), .string s, .string bb, .int .i64 n] w fun e w' => ∃ h', e = .returned (.int .i64 q) ∧ Rcx h' b ys ∧ Env w0 w' (l.set i h') := by
  obtain ⟨h1, h2⟩ := hE
  subst h1
  subst h2
  exact (refCrossAdd_calls b xs s bb n h w (E.sub i hi) S.pt S.good).mono fun _ _ ⟨h', he, hp, u⟩ => ⟨h', he, ⟨hp, S.good.add s bb n⟩, E.upd i hi u⟩
theorem Rcx.asset (E : Env w0 w l) (sx : Sl kPair k A ca xs) (ks : k.sub w) (so : Sl kInt p D cd rs) (ps : p.sub w) (hx : xs.length ≤ 1000) (n m : Nat) (hn : xs.length = n) (hm : rs.length = m) {N Er : Int} (hN : assN xs rs = N) (hE : assE xs rs = Er) :
    Calls Try.prog 34 #[.slice A n ca, .slice D m cd] w fun e w' => e = .returned (.tuple #[.int .i64 N, .int .i64 Er]) ∧ Env w0 w' l := by
  subst hn hm hN hE
  exact (refAsset_calls A D ca cd xs rs k p w ks ps sx so hx).mono fun _ _ ⟨he, b⟩ => ⟨he, E.below b⟩
end
theorem crossPlays_calls (A : Option Addr) (ca : Nat) (xs : List (Nat → Int)) (k1 : Hp) (U : Option Addr) (cu : Nat) (us : List Int) (k2 : Hp) (more : Int) (w : World) (hs1 : k1.sub w) (s1 : Sl (kFun 3 (by decide)) k1 A ca xs) (hz : ∀ z ∈ xs, ∀ j, j < 3 → I64 (z j)) (hs2 : k2.sub w) (s2 : Sl kInt k2 U cu us) :
    Calls Try.prog 8 #[.slice A xs.length ca, .slice U us.length cu, .int .i64 more] w fun e w' => e = .returned (.bool true) ∧ Below w.heap.size w w' := by
  have E0 := Env.start w
  have m1 := s1.small
  have m2 := s2.small
  have HZ := Lib.hid hz
  clear hz
  go_enter Try.func8, Try.ntmps8
  go_wp2_with fail
  refine (Crs.new E0).mono ?_
  rintro e w1 ⟨h1, c, rfl, S1, E1⟩
  try simp at E1
  go_upto_region 2 with fail
  have E2 := E1.alloc (.cells #[.slice none 0 0] 66)
  simp at E2
  have P1 := Rcx.box w1.heap.size
  obtain ⟨W2, hW2⟩ : ∃ W, W = w1.alloc (.cells #[.slice none 0 0] 66) := ⟨_, rfl⟩
  rw [← hW2] at E2
  rw [← hW2]
  clear hW2
  generalize hb2 : w1.heap.size = bx at *
  have E3 := E2.alloc (.cells #[.string ⟨#[97]⟩, .string ⟨#[98]⟩, .string ⟨#[99]⟩, .string ⟨#[100]⟩, .string ⟨#[101]⟩, .string ⟨#[]⟩] 9)
  simp at E3
  go_wp2_with fail
  generalize hb3 : W2.heap.size = bi at *
  go_loopw [10] (fun i wr => ∃ (j : Nat) (h hr : Hp) (l : List SPair), j ≤ xs.length ∧ j ≤ 24 ∧ i = .int .i64 j ∧ Crs h c l ∧ Rcx hr bx l ∧ Env w wr [h, hr, Hp.box bi [.string ⟨#[97]⟩, .string ⟨#[98]⟩, .string ⟨#[99]⟩, .string ⟨#[100]⟩, .string ⟨#[101]⟩, .string ⟨#[]⟩] 9]) (fun i _ => 24 - (intOf i).toNat)
  case atStart => exact ⟨0, h1, _, [], by omega, by omega, rfl, S1, P1, E3⟩
  case round =>
    clear S1 P1 E1 E2 E3 hb2 hb3
    obtain ⟨j, h, hr, l, hj, hj2, rfl, S, P, E⟩ := hrel
    obtain ⟨IDS, hIDS⟩ : ∃ k : Hp, k = Hp.box bi [.string ⟨#[97]⟩, .string ⟨#[98]⟩, .string ⟨#[99]⟩, .string ⟨#[100]⟩, .string ⟨#[101]⟩, .string ⟨#[]⟩] 9 := ⟨_, rfl⟩
    by_cases hlt : j < xs.length ∧ j < 24
    · obtain ⟨hlt, hlt2⟩ := hlt
      obtain ⟨x, hx⟩ := some_of_lt hlt
      obtain ⟨ba, oa, rfl, d0, d1, d2⟩ := s1.fn3 (hs1.of_below E.low) hx
      have z2 := HZ.out x (List.mem_of_getElem? hx.out) 2 (by omega)
      have i1 : (0 : Int) ≤ (j : Int) := by omega
      have i2 : (j : Int) < (xs.length : Int) := by omega
      have i3 : (j : Int) < 24 := by omega
      generalize x 0 = v0 at *
      generalize x 1 = v1 at *
      generalize x 2 = v2 at *
      have p1 := within_lo v0 (n := 31) (by omega)
      have p2 := within_lo v1 (n := 31) (by omega)
      have A2 := fun W => amount_calls v2 z2 W
      have ab := amount_bd v2 z2
      generalize amount v2 = am at *
      obtain ⟨ka, hka, hka6⟩ : ∃ k : Nat, (within v0 31).tmod 6 = (k : Int) ∧ k < 6 := ⟨((within v0 31).tmod 6).toNat, by have := Int.tmod_nonneg 6 p1; omega, by have := Int.tmod_lt_of_pos (within v0 31) (b := 6) (by omega); omega⟩
      obtain ⟨kb, hkb, hkb6⟩ : ∃ k : Nat, (within v1 31).tmod 6 = (k : Int) ∧ k < 6 := ⟨((within v1 31).tmod 6).toNat, by have := Int.tmod_nonneg 6 p2; omega, by have := Int.tmod_lt_of_pos (within v1 31) (b := 6) (by omega); omega⟩
      obtain ⟨sa, hsa⟩ : ∃ sv : ByteArray, wr.cell? ⟨bi, ka, none⟩ = some (.string sv) := by
        rcases (show ka = 0 ∨ ka = 1 ∨ ka = 2 ∨ ka = 3 ∨ ka = 4 ∨ ka = 5 by omega) with rfl | rfl | rfl | rfl | rfl | rfl
        · exact ⟨_, E.cell 2 rfl 0 rfl⟩
        · exact ⟨_, E.cell 2 rfl 1 rfl⟩
        · exact ⟨_, E.cell 2 rfl 2 rfl⟩
        · exact ⟨_, E.cell 2 rfl 3 rfl⟩
        · exact ⟨_, E.cell 2 rfl 4 rfl⟩
        · exact ⟨_, E.cell 2 rfl 5 rfl⟩
      obtain ⟨sb, hsb⟩ : ∃ sv : ByteArray, wr.cell? ⟨bi, kb, none⟩ = some (.string sv) := by
        rcases (show kb = 0 ∨ kb = 1 ∨ kb = 2 ∨ kb = 3 ∨ kb = 4 ∨ kb = 5 by omega) with rfl | rfl | rfl | rfl | rfl | rfl
        · exact ⟨_, E.cell 2 rfl 0 rfl⟩
        · exact ⟨_, E.cell 2 rfl 1 rfl⟩
        · exact ⟨_, E.cell 2 rfl 2 rfl⟩
        · exact ⟨_, E.cell 2 rfl 3 rfl⟩
        · exact ⟨_, E.cell 2 rfl 4 rfl⟩
        · exact ⟨_, E.cell 2 rfl 5 rfl⟩
      rw [← hIDS] at E
      have i4 : (0 : Int) ≤ (ka : Int) := by omega
      have i5 : (ka : Int) < 6 := by omega
      have i6 : (0 : Int) ≤ (kb : Int) := by omega
      have i7 : (kb : Int) < 6 := by omega
      clear p1 p2
      go_upto_region 9 with fail
      have hsaW := fun o => (cell_alloc (o := o) (World.block_lt_of_cell? _ _ hsa)).trans hsa
      have hsbW := fun o => (cell_alloc (o := o) (World.block_lt_of_cell? _ _ hsb)).trans hsb
      replace hsa := hsaW (.cells #[.int .i64 v0, .int .i64 v1, .int .i64 v2] 56)
      replace hsb := hsbW (.cells #[.int .i64 v0, .int .i64 v1, .int .i64 v2] 56)
      clear hsaW hsbW
      replace E := E.alloc (.cells #[.int .i64 v0, .int .i64 v1, .int .i64 v2] 56)
      simp at E
      obtain ⟨W, hW⟩ : ∃ W : World, W = wr.alloc (.cells #[.int .i64 v0, .int .i64 v1, .int .i64 v2] 56) := ⟨_, rfl⟩
      rw [← hW] at E hsa hsb
      rw [← hW]
      clear hW
      have q0 := E.cell 3 rfl 0 rfl
      have q1 := E.cell 3 rfl 1 rfl
      have q2 := E.cell 3 rfl 2 rfl
      generalize wr.heap.size = bw at *
      clear d0 d1 d2
      go_quiet (first | (go_at_call 15; (first | exact quiet_one (within_calls _ _ _ (by omega) (by omega)) | exact quiet_more (within_calls _ _ _ (by omega) (by omega)))) | fail)
      replace E := E.drewN nq
      obtain ⟨V, hV⟩ : ∃ V, V = W.drewN nq := ⟨_, rfl⟩
      rw [← hV] at E
      rw [← hV]
      clear hV q0 q1 q2 hsa hsb
      have q2 := E.cell 3 rfl 2 rfl
      clear i4 i5 i6 i7 hka hkb
      go_wp2_with fail
      refine (A2 _).mono ?_
      rintro e w' ⟨rfl, rfl⟩
      obtain ⟨mx, hmx⟩ : ∃ mx, max am (-am) = mx := ⟨_, rfl⟩
      have hif : (if am ≤ -am then -am else am) = mx := by omega
      go_upto_if 64 with fail
      go_cut [14] (fun a wx => ∃ v : Int, a = .int .i64 v ∧ Env w wx [h, hr, IDS, Hp.box bw [.int .i64 v0, .int .i64 v1, .int .i64 v2] 56])
      case first =>
        by_cases h3 : v2.tmod 3 = 0
        · have t3 : (v2.tmod 3 != 0) = false := by simp [h3]
          clear h3
          go_wp2_with fail
          go_meet
          exact ⟨_, rfl, E⟩
        · have t3 : (v2.tmod 3 != 0) = true := by simpa using h3
          clear h3
          go_wp2_with fail
          go_meet
          exact ⟨_, rfl, E⟩
      case rest =>
        clear E q2 hmx hif ab A2
        obtain ⟨n, rfl, E⟩ := hcut
        go_upto_if 70 with fail
        go_cut [15] (fun a wx => Env w wx [h, hr, IDS, Hp.box bw [.int .i64 v0, .int .i64 v1, .int .i64 v2] 56])
        case first =>
          by_cases h9 : j = 9
          · have t9 : ((j : Int) == 9) = true := by simp [h9]
            clear h9
            go_wp2_with fail
            refine (Crs.clone S E 0 rfl).mono ?_
            rintro e w3 ⟨h3, b3, rfl, S3, E3⟩
            simp at E3
            go_wp2_with fail
            refine (Crs.add S3 E3 4 rfl _ _ _ ⟨rfl, rfl⟩).mono ?_
            rintro e w4 ⟨h4, rfl, S4, E4⟩
            have E5 := E4.drop 4
            simp at E5
            go_wp2_with fail
            go_meet
            exact E5
          · have t9 : ((j : Int) == 9) = false := by simp; omega
            clear h9
            go_wp2_with fail
            go_meet
            exact E
        case rest =>
          clear E
          have E := hcut
          clear hcut
          go_wp2_with fail
          refine (Crs.add S E 0 rfl _ _ _ ⟨rfl, rfl⟩).mono ?_
          rintro e w6 ⟨h6, rfl, S6, E6⟩
          go_wp2_with fail
          refine (Rcx.add P E6 1 rfl _ _ _ ⟨rfl, rfl⟩).mono ?_
          rintro e w7 ⟨h7, rfl, P7, E7⟩
          simp at E7
          obtain ⟨L, P8, S8⟩ : ∃ L, Rcx h7 bx L ∧ Crs h6 c L := ⟨_, P7, S6⟩
          clear P7 S6 P S
          generalize addE l sa sb n = er at *
          have E8 := E7.drop 3
          simp at E8
          go_wp2
          go_roundw
          case rel => exact ⟨j + 1, _, _, L, by omega, by omega, by go_num, S8, P8, by rw [← hIDS]; exact E8⟩
          case measure => simp [intOf]; omega
    · rw [← hIDS] at E
      clear hIDS
      rcases (show xs.length ≤ j ∨ (j < xs.length ∧ j = 24) by omega) with g | ⟨g, rfl⟩
      all_goals
        clear hlt
        have gl := S.good.len
        obtain ⟨cs2, hb2, A2, ca2, rfl, ow2⟩ := P.pt
        have sl2 := ow2.sl.mono (Hp.del_le hr bx)
        have KP : ∀ V L, Env w V L → L[1]? = some hr → V.cell? ⟨bx, 0, none⟩ = some (.slice A2 l.length ca2) := fun V L E i => by
          rw [cell_of_row V bx 0 _ _ _ (E.sub 1 i _ _ hb2)]; rfl
        go_wp2_with fail
        refine (Crs.rows S E 0 rfl l.length rfl).mono ?_
        rintro e w2 ⟨C2, n2, hw, rfl, oR, E2⟩
        have E3 := E2.new (Upd.of_below (Below.refl w2.heap.size w2))
        simp at E3
        have kp := KP _ _ E3 rfl
        go_wp2_with fail
        clear kp
        go_loopw [17, 100] (fun v i wr => ∃ (q cap : Nat) (C : Option Addr) (h' : Hp) (os : List Int), q ≤ l.length ∧ i = .int .i64 q ∧ v = .slice C q cap ∧ Hid (os.length = q) ∧ Ow kInt h' C cap os ∧ Env w wr [h, hr, IDS, hw, h']) (fun _ i _ => l.length - (intOf i).toNat)
        case atStart => exact ⟨0, 0, none, Hp.none, [], by omega, rfl, rfl, rfl, Ow.none _ _, E3⟩
        case round =>
          clear E3 E2 E
          obtain ⟨q, cap, C, h', os, hq, rfl, rfl, hm, o, E⟩ := hrel
          have kp := KP _ _ E rfl
          by_cases hlq : q < l.length
          · obtain ⟨x, hx⟩ := some_of_lt hlq
            obtain ⟨bb1, oo1, rfl, c1, c2, c3⟩ := oR.sl.pair (E.sub 3 rfl) hx
            obtain ⟨bb2, oo2, rfl, d1, d2, d3⟩ := sl2.pair (E.sub 1 rfl) hx
            have i1 : (0 : Int) ≤ (q : Int) := by omega
            have i2 : (q : Int) < (l.length : Int) := by omega
            have n0 := fun W => ne_pair19 x W
            go_upto_region 27 with fail
            go_quiet (fail)
            have E4 := E.drewN nq
            clear n0 c1 c2 c3 d1 d2 d3 kp
            by_cases hur : q < us.length
            · obtain ⟨r, hr'⟩ := some_of_lt hur
              obtain ⟨b3, o3, rfl, e1⟩ := s2.int (hs2.of_below E4.low) hr'
              have i3 : (q : Int) < (us.length : Int) := by omega
              have PC := fun W => playRate_calls r W
              generalize rateOf r = rr at *
              go_wp2_with fail
              refine (PC _).mono ?_
              rintro e w5 ⟨rfl, B5⟩
              have E5 := E4.below B5
              go_wp2_with (at_builtin; refine wpList_eapp 4 rr Try.underlying22 info_int (by repeat (first | (with_reducible exact E5) | (with_reducible apply Env.drew) | (with_reducible apply Env.drewN) | (with_reducible apply Env.alloc'))) (by rfl) o q hm.out (by rfl) (by rfl) rfl 1 (by rfl) (by rfl) (heap_new_at (by simp)) (by rfl) (by omega) (by omega) ?_; intro C6 n6 w6 h6 o6 E6)
              simp at E6
              go_roundw
              case rel => exact ⟨q + 1, n6, C6, h6, os ++ [rr], by omega, by go_num, rfl, by unfold Hid; rw [List.length_append, hm.out]; rfl, o6, E6⟩
              case measure => simp [intOf]; omega
            · have i3 : (us.length : Int) ≤ (q : Int) := by omega
              have PC := fun W => playRate_calls 7 W
              generalize rateOf 7 = rr at *
              go_wp2_with fail
              refine (PC _).mono ?_
              rintro e w5 ⟨rfl, B5⟩
              have E5 := E4.below B5
              go_wp2_with (at_builtin; refine wpList_eapp 4 rr Try.underlying22 info_int (by repeat (first | (with_reducible exact E5) | (with_reducible apply Env.drew) | (with_reducible apply Env.drewN) | (with_reducible apply Env.alloc'))) (by rfl) o q hm.out (by rfl) (by rfl) rfl 1 (by rfl) (by rfl) (heap_new_at (by simp)) (by rfl) (by omega) (by omega) ?_; intro C6 n6 w6 h6 o6 E6)
              simp at E6
              go_roundw
              case rel => exact ⟨q + 1, n6, C6, h6, os ++ [rr], by omega, by go_num, rfl, by unfold Hid; rw [List.length_append, hm.out]; rfl, o6, E6⟩
              case measure => simp [intOf]; omega
          · obtain rfl : q = l.length := by omega
            clear kp
            by_cases h7 : more.tmod 7 = 6
            · have t7 : (more.tmod 7 == 6) = true := by simpa using h7
              clear h7
              have HL : Hid ((os ++ [5]).length = l.length + 1) := by unfold Hid; rw [List.length_append, hm.out]; rfl
              go_upto_if 131 with fail
              go_wp2_with (at_builtin; refine wpList_eapp 4 (5:Int) Try.underlying22 info_int (by repeat (first | (with_reducible exact E) | (with_reducible apply Env.drew) | (with_reducible apply Env.drewN) | (with_reducible apply Env.alloc'))) (by rfl) o l.length hm.out (by rfl) (by rfl) rfl 1 (by rfl) (by rfl) (heap_new_at (by simp)) (by rfl) (by omega) (by omega) ?_; intro C6 n6 w6 h6 o6 E6)
              simp at E6
              obtain ⟨RS, hRS⟩ : ∃ RS, RS = os ++ [(5:Int)] := ⟨_, rfl⟩
              rw [← hRS] at o6 HL
              obtain ⟨N, hN⟩ : ∃ N, assN l RS = N := ⟨_, rfl⟩
              obtain ⟨Er, hEr⟩ : ∃ Er, assE l RS = Er := ⟨_, rfl⟩
              have HN := Lib.hid hN
              have HEr := Lib.hid hEr
              clear hN hEr
              go_wp2_with fail
              refine (Crs.asset E6 oR.sl (E6.sub 3 rfl) o6.sl (E6.sub 4 rfl) (by omega) l.length _ rfl HL.out HN.out HEr.out).mono ?_
              rintro e w7 ⟨rfl, E7⟩
              have kp7 := KP _ _ E7 rfl
              go_wp2_with fail
              refine (Rcx.asset E7 sl2 (E7.sub 1 rfl) o6.sl (E7.sub 4 rfl) (by omega) l.length _ rfl HL.out HN.out HEr.out).mono ?_
              rintro e w8 ⟨rfl, E8⟩
              go_wp2_with fail
              refine (wakes24 _).mono ?_
              rintro e w9 ⟨rfl, B9⟩
              go_wp2
              go_ret
              exact ⟨rfl, (E8.below B9).low⟩
            · have t7 : (more.tmod 7 == 6) = false := by simpa using h7
              clear h7
              have HL := hm
              obtain ⟨RS, hRS⟩ : ∃ RS, RS = os := ⟨_, rfl⟩
              subst hRS
              have o6 := o
              have E6 := E
              obtain ⟨N, hN⟩ : ∃ N, assN l RS = N := ⟨_, rfl⟩
              obtain ⟨Er, hEr⟩ : ∃ Er, assE l RS = Er := ⟨_, rfl⟩
              have HN := Lib.hid hN
              have HEr := Lib.hid hEr
              clear hN hEr
              go_wp2_with fail
              refine (Crs.asset E6 oR.sl (E6.sub 3 rfl) o6.sl (E6.sub 4 rfl) (by omega) l.length _ rfl HL.out HN.out HEr.out).mono ?_
              rintro e w7 ⟨rfl, E7⟩
              have kp7 := KP _ _ E7 rfl
              go_wp2_with fail
              refine (Rcx.asset E7 sl2 (E7.sub 1 rfl) o6.sl (E7.sub 4 rfl) (by omega) l.length _ rfl HL.out HN.out HEr.out).mono ?_
              rintro e w8 ⟨rfl, E8⟩
              go_wp2_with fail
              refine (wakes24 _).mono ?_
              rintro e w9 ⟨rfl, B9⟩
              go_wp2
              go_ret
              exact ⟨rfl, (E8.below B9).low⟩
end Go.Proofs.Ytdcfojohgcmpcaa
end
namespace Go.Proofs.Ytdcfojohgcmpcaa.crossPlays
open Go.ChangeShapes Go.WideShapes Go.ChangeAt Go.RowKit Go.Sl
set_option linter.unusedVariables false
set_option maxRecDepth 100000
set_option maxHeartbeats 2000000
theorem lifted (os : Os) (started : os.Started) (H : Type) (enc : TypeId × Value → H) :
    ReturnsInHanded {} Try.checked os 8 .any (Rows.crossPlaysSpec.pre6 enc Try.prog Try.f8 Rows.crossPlaysRow.domain false) (Rows.crossPlaysSpec.post enc Try.prog Try.f8 false true false false) := by
  refine returnsInHanded_of_change_sized (C := Try.checked) Lift.own started (by kernel_rfl) Try.func8
    (ChangeSpec.witness6 (enc := enc) (C := Try.checked) false ⟨#[], #[.slice none 0 0, .slice none 0 0, .int .i64 0], []⟩ 8 (by kernel_rfl) (by kernel_rfl) (by kernel_rfl) (by kernel_rfl)) ?_
  intro W base args ds gs before hval0 hW hcnd hsz0 _
  have hval : ∀ (j : Nat) t v, Try.f8.params[j]? = some t → args[j]? = some v → Value.okWide Try.prog W .any base t v := hval0
  have hW' := hW
  obtain ⟨p, q, hA0, hV, rfl, hfz, hnd⟩ := hW
  have hA : DataW.TrodAll enc Try.prog W 0 (fun _ => true) true Try.f8.params.toList args.toList ds p := hA0
  rw [Try.params8] at hA hval
  obtain ⟨v0, vs0, d0, ds0, p0, q0, hargs, rfl, rfl, h0, r0⟩ := trodAll_cons hA
  obtain ⟨v1, vs1, d1, ds1, p1, q1, rfl, rfl, rfl, h1, r1⟩ := trodAll_cons r0
  obtain ⟨v2, vs2, d2, ds2, p2, q2, rfl, rfl, rfl, h2, r2⟩ := trodAll_cons r1
  obtain ⟨rfl, rfl, rfl⟩ := trodAll_nil r2
  obtain rfl : args = #[v0, v1, v2] := by cases args; simp_all
  obtain ⟨rfl, rfl⟩ := trodVars_none hV
  have k0 := h0
  have lt0 : ∀ x ∈ p0, x.block < W.heap.size := by obtain ⟨m, hm⟩ := k0; exact DataW.trod_lt m _ _ _ hm
  obtain ⟨a0_0, len0_0, cap0_0, rfl⟩ := okWide_slice Try.underlying50 (hval 0 50 v0 rfl rfl)
  obtain ⟨fuel0, hf0⟩ := h0
  obtain ⟨A0, c0, z0, hcs0, s0, w0⟩ := open_acts 3 (by decide) Try.underlying50 Try.underlying56 (by kernel_rfl) (fun i hi => match i, hi with | 0, _ => ⟨_, rfl, rfl, Try.underlying3, by kernel_rfl⟩ | 1, _ => ⟨_, rfl, rfl, Try.underlying3, by kernel_rfl⟩ | 2, _ => ⟨_, rfl, rfl, Try.underlying3, by kernel_rfl⟩ | k + 3, h => absurd h (by omega)) hf0
  simp [Value.cells] at hcs0
  obtain ⟨rfl, rfl, rfl⟩ := hcs0
  have k1 := h1
  have lt1 : ∀ x ∈ p1, x.block < W.heap.size := by obtain ⟨m, hm⟩ := k1; exact DataW.trod_lt m _ _ _ hm
  obtain ⟨A1, c1, z1, rfl, s1, w1⟩ := Lift.ints_of (hval 1 22 v1 rfl rfl) h1
  obtain ⟨a2, rfl, rfl, rfl, x2⟩ := open_int Try.underlying3 (hval 2 3 v2 rfl rfl) h2
  have w2 := I64.of_wf x2
  clear hA0 hval0 hsz0
  refine (crossPlays_calls a0_0 cap0_0 z0 (Hp.all W) A1 c1 z1 (Hp.all W) a2 W (Hp.all_sub W) s0 w0 (Hp.all_sub W) s1).mono fun e W' ⟨he, bel⟩ => ?_
  subst he
  exact ⟨_, rfl, _, _, _, [], _, [], hW', trodAll_mk1 (shut_bool Try.underlying4 _), (trodAll_cons_mk (Below.trod Lift.laidOut (by kernel_rfl) (of_decide_eq_true (by kernel_rfl)) k0 bel lt0) (trodAll_cons_mk (Below.trod Lift.laidOut (by kernel_rfl) (of_decide_eq_true (by kernel_rfl)) k1 bel lt1) (trodAll_cons_mk (shut_int Try.underlying3 x2) trodAll_mk0))), rfl, bel.frame _, fun h => by cases h⟩
theorem over : Rows.crossPlaysRow.holds Try.pinned (OpenSpec.ofChange Rows.crossPlaysSpec) :=
  OpenClaim.holds_of_wide 8 Try.f8 rfl rfl rfl rfl rfl rfl rfl ⟨rfl, rfl, rfl, rfl, rfl⟩ rfl rfl rfl rfl rfl (by kernel_rfl) Try.func8 (by kernel_rfl)
    (of_decide_eq_true (by kernel_rfl)) (by unfold Func.isWrapper; first | (rw [if_pos (by decide +kernel)]; kernel_rfl) | (rw [if_neg (by decide +kernel)]; exact ⟨rfl, rfl⟩))
    (fun os started H enc _ => lifted os started H enc)
end Go.Proofs.Ytdcfojohgcmpcaa.crossPlays
namespace Go.Proofs.Ytdcfojohgcmpcaa
theorem crossPlays_holds : Rows.CrossPlaysSaid := crossPlays.over
#print axioms crossPlays_holds
end Go.Proofs.Ytdcfojohgcmpcaa
