/- Walks and plain facts that the laws of this seat share, part 5: contracts of functions, each said at its theorem. -/
import Derived.Test.YtdcfojohgcmpcaaPk4
import Derived.Laws.Cover1
import Derived.WalkKit
import Derived.Laws.StructEq
import Derived.Deep.RegionHeld3
import Derived.Deep.MidRow
set_option linter.all false
section
/- The walk of the reference's Cross: Add. -/
namespace Go.Sl
open Go Go.RowKit
theorem bl_cmp : ∀ a b : List UInt8, Op.bytesLess a b = decide (Lib.compareBytes a b = -1)
  | [], [] => by simp [Op.bytesLess, Lib.compareBytes]
  | _ :: _, [] => by simp [Op.bytesLess, Lib.compareBytes]
  | [], _ :: _ => by simp [Op.bytesLess, Lib.compareBytes]
  | a :: az, b :: bs => by
    unfold Op.bytesLess Lib.compareBytes
    rw [bl_cmp az bs]
    by_cases h1 : a < b
    · simp [h1]
    · by_cases h2 : b < a
      · have h3 : a ≠ b := fun e => h1 (e ▸ h2)
        simp [h1, h2, h3]
      · have h3 : a = b := by
          rcases u8_tri a b with h | h | h
          · exact absurd h h1
          · exact h
          · exact absurd h h2
        simp [h3, UInt8.lt_irrefl]
theorem blS (a b : ByteArray) : Op.bytesLess a.toList b.toList = decide (cmpS a b = -1) := by
  rw [bl_cmp, tl_data, tl_data]; rfl
def stepP (s b : ByteArray) (v : Int) (x : SPair) : Int := if isP s b x = true then x.amt else v
def lastP (l : List SPair) (s b : ByteArray) : Int := l.foldl (stepP s b) 0
theorem lastP_none {s b : ByteArray} : ∀ {l : List SPair} (v : Int), (∀ x ∈ l, isP s b x = false) → l.foldl (stepP s b) v = v
  | [], _, _ => rfl
  | x :: l, v, h => by
    rw [List.foldl_cons, show stepP s b v x = v by unfold stepP; rw [h x (by simp)]; rfl]
    exact lastP_none v fun y hy => h y (by simp [hy])
theorem lastP_has {s b : ByteArray} : ∀ {l : List SPair}, Rising ordStr2 pkey l → lastP l s b = hasP l s b
  | [], _ => rfl
  | x :: l, h => by
    have ih := lastP_has (s := s) (b := b) h.tail
    unfold lastP at *
    rw [List.foldl_cons]
    by_cases hx : x.s = s ∧ x.b = b
    · have h1 : isP s b x = true := by simp [isP, hx]
      rw [show stepP s b 0 x = x.amt by unfold stepP; rw [h1]; rfl, lastP_none]
      · unfold hasP find; simp [pkey, hx]
      · intro y hy
        have h2 := h.head _ _ y hy
        have h3 := ordStr2.ne h2
        cases h4 : isP s b y with
        | false => rfl
        | true =>
          have h5 : y.s = s ∧ y.b = b := by simpa [isP] using h4
          exact absurd (by simp [pkey, hx, h5]) h3
    · have h1 : isP s b x = false := by simpa [isP] using hx
      rw [show stepP s b 0 x = 0 by unfold stepP; rw [h1]; rfl, ih]
      have h6 : ¬ pkey x = (s, b) := by simpa [pkey] using hx
      unfold hasP find; simp [h6]
theorem lastP_take {l : List SPair} {j : Nat} {x : SPair} (hx : Hid (l[j]? = some x)) (s b : ByteArray) : lastP (l.take (j + 1)) s b = if isP s b x = true then x.amt else lastP (l.take j) s b := by
  rw [take_next hx]; unfold lastP; rw [List.foldl_append]; rfl
/-- What the reference's second loop makes. -/
theorem goP_lay {x y : SPair} {l : List SPair} (h : ordStr2.lt (pkey x) (pkey y) = true) : setGo ordStr2 pkey x false (y :: l) = x :: y :: setGo ordStr2 pkey x true l := by
  rw [setGo, if_neg (ordStr2.ne h).symm, if_pos ⟨rfl, h⟩]
theorem goP_keep {x y : SPair} {d : Bool} {l : List SPair} (h : pkey y ≠ pkey x) (h2 : d = true ∨ ordStr2.lt (pkey x) (pkey y) = false) : setGo ordStr2 pkey x d (y :: l) = y :: setGo ordStr2 pkey x d l := by
  rw [setGo, if_neg h, if_neg]; rintro ⟨a, b⟩; rcases h2 with h2 | h2 <;> simp_all
theorem goP_skip {x y : SPair} {d : Bool} {l : List SPair} (h : pkey y = pkey x) : setGo ordStr2 pkey x d (y :: l) = setGo ordStr2 pkey x d l := by simp [setGo, h]
theorem goP_len (x : SPair) : ∀ (l : List SPair) (d : Bool), (setGo ordStr2 pkey x d l).length ≤ 2 * l.length + 1
  | [], d => by cases d <;> simp [setGo]
  | y :: l, d => by
    have h1 := goP_len x l d
    have h2 := goP_len x l true
    unfold setGo
    split
    · simp; omega
    · split
      · simp; omega
      · simp; omega
theorem goP_all {l : List SPair} (h : Rising ordStr2 pkey l) (s b : ByteArray) (v : Int) : setGo ordStr2 pkey ⟨s, b, v⟩ (decide (v = 0)) l = isort ordStr2 pkey (nextP l s b v) := by
  rw [nextP_put h]
  by_cases h0 : v = 0
  · rw [if_pos h0, decide_eq_true h0, setGo_true]; rfl
  · rw [if_neg h0, decide_eq_false h0, setGo_false _ _ _ _ h]
theorem appa2 {α : Type} (l : List α) (x y : α) (r : List α) : l ++ x :: y :: r = (l ++ [x] ++ [y]) ++ r := by simp
theorem appa1 {α : Type} (l : List α) (x : α) (r : List α) : l ++ x :: r = (l ++ [x]) ++ r := by simp
theorem cmpS_self (a : ByteArray) : cmpS a a = 0 := cmpB_self _
theorem cmpS_swap (a b : ByteArray) : cmpS b a = -cmpS a b := cmpB_swap _ _
end Go.Sl
namespace Go.Proofs.Ytdcfojohgcmpcaa
open Go.RowKit Go.Sl
set_option maxHeartbeats 4000000
set_option maxRecDepth 100000
theorem info_pair19 : Info Try.prog 68 (.agg #[.string ⟨#[]⟩, .string ⟨#[]⟩, .int .i64 0]) 3 40 := by unfold Info; kernel_rfl
abbrev PtX (h : Hp) (b : Nat) (l : List SPair) : Prop := Pt (kOne kPair) 66 h b l
def RXAns (b : Nat) (l : List SPair) (s bb : ByteArray) (n : Int) (h : Hp) (w : World) (e : Ending) (w' : World) : Prop :=
  ∃ h', e = .returned (.int .i64 (addE l s bb n)) ∧ PtX h' b (addW l s bb n) ∧ Upd h h' w w'
theorem refCrossAdd_calls (b : Nat) (l : List SPair) (s bb : ByteArray) (n : Int) (h : Hp) (w : World) (hs : h.sub w) (hp : PtX h b l) (g : GoodP l) :
    Calls Try.prog 32 #[.pointer (some ⟨b, 0, none⟩), .string s, .string bb, .int .i64 n] w (RXAns b l s bb n h w) := by
  have NO : ∀ {q : Int} {W : World}, addE l s bb n = q → q ≠ 0 → Below w.heap.size w W → RXAns b l s bb n h w (.returned (.int .i64 q)) W := fun h1 h2 h3 => ⟨h, by rw [h1], by unfold addW; rw [if_neg (by rw [h1]; exact h2)]; exact hp, Upd.stay hs h3⟩
  have gl := g.len
  obtain ⟨A, ca, hb, hc, ow, hfz⟩ := hp.one hs
  have hlt : b < w.heap.size := World.block_lt_of_cell? _ _ hc
  have sx := ow.sl
  have hd := hs.del b
  have m1 := sx.small
  have MC := fun W => refMoney_calls n W
  have HE : Hid (addE l s bb n = if (noS s || (noS bb || (decide (s = bb) || !money n))) = true then 1 else if (decide (hasP l s bb + n < 0) || !money (hasP l s bb + n)) = true then 6 else if 8 < (nextP l s bb (hasP l s bb + n)).length then 5 else 0) := rfl
  cases e0 : s.toList.isEmpty with
  | true =>
    have HE1 : Hid (addE l s bb n = 1) := by unfold Hid; rw [HE.out, if_pos (by simp [noS, e0])]
    have e0' : s.toList = [] := by simpa using e0
    clear MC
    go_enter Try.func32, Try.ntmps32
    go_wp2
    go_ret
    exact NO HE1.out (by decide) (Below.refl _ _)
  | false =>
  cases e1 : bb.toList.isEmpty with
  | true =>
    have HE1 : Hid (addE l s bb n = 1) := by unfold Hid; rw [HE.out, if_pos (by simp [noS, e1])]
    have e1' : bb.toList = [] := by simpa using e1
    clear MC
    go_enter Try.func32, Try.ntmps32
    go_wp2
    go_ret
    exact NO HE1.out (by decide) (Below.refl _ _)
  | false =>
  by_cases e2 : s = bb
  · have HE1 : Hid (addE l s bb n = 1) := by unfold Hid; rw [HE.out, if_pos (by simp [e2])]
    have t2 : (s.toList == bb.toList) = true := by rw [e2]; simp
    clear MC e2
    go_enter Try.func32, Try.ntmps32
    go_wp2
    go_ret
    exact NO HE1.out (by decide) (Below.refl _ _)
  have t2 : (s.toList == bb.toList) = false := beq_eq_false_iff_ne.2 fun e => e2 (tl_inj e)
  cases e3 : money n with
  | false =>
    have HE1 : Hid (addE l s bb n = 1) := by unfold Hid; rw [HE.out, if_pos (by simp [e3])]
    rw [e3] at MC
    clear e2 e3
    go_enter Try.func32, Try.ntmps32
    go_wp2_with (go_at_call 84; refine (MC _).mono ?_; rintro e w' ⟨rfl, rfl⟩)
    go_ret
    exact NO HE1.out (by decide) (Below.refl _ _)
  | true =>
  have HE2 : Hid (addE l s bb n = if (decide (hasP l s bb + n < 0) || !money (hasP l s bb + n)) = true then 6 else if 8 < (nextP l s bb (hasP l s bb + n)).length then 5 else 0) := by
    unfold Hid; rw [HE.out, if_neg (by simp [noS, e0, e1, e2, e3])]
  obtain ⟨n1, n2⟩ : -100000000000 ≤ n ∧ n ≤ 100000000000 := by simpa [money] using e3
  obtain ⟨g1, g2⟩ := hasP_bd g s bb
  rw [e3] at MC
  clear HE e2 e3
  have HLs := Lib.hid (lastP_has (s := s) (b := bb) g.rise)
  obtain ⟨V, hV⟩ : ∃ V, hasP l s bb + n = V := ⟨_, rfl⟩
  have HV : Hid (n + lastP l s bb = V) := by unfold Hid; rw [HLs.out]; omega
  rw [hV] at HE2
  have HRR : Hid (addE l s bb n = 0 → addW l s bb n = isort ordStr2 pkey (nextP l s bb V)) := fun h => by unfold addW; rw [if_pos h, hV]
  have hlast : ∀ j, -100000000000 ≤ lastP (l.take j) s bb ∧ lastP (l.take j) s bb ≤ 100000000000 := fun j => by
    have := hasP_bd (l := l.take j) ⟨(List.Pairwise.sublist (List.take_sublist j l) g.rise), fun x hx => g.amt x (List.mem_of_mem_take hx), by rw [List.length_take]; omega⟩ s bb
    rw [lastP_has (List.Pairwise.sublist (List.take_sublist j l) g.rise)]; omega
  have HL := Lib.hid hlast
  have hd5 := goP_all g.rise s bb V
  have hil := isort_length (nextP_dist g.rise s bb V)
  rw [← hd5] at HRR hil
  clear hlast hd5 hV g1 g2
  have MV := fun W => refMoney_calls V W
  go_enter Try.func32, Try.ntmps32
  go_wp2_with (go_at_call 84; refine (MC _).mono ?_; rintro e w' ⟨rfl, rfl⟩)
  clear MC t2 e0 e1
  go_loopw [10, 37] (fun v i wr => ∃ (j : Nat), j ≤ l.length ∧ i = .int .i64 j ∧ v = .int .i64 (lastP (l.take j) s bb) ∧ Below w.heap.size w wr) (fun _ i _ => l.length - (intOf i).toNat)
  case atStart => exact ⟨0, by omega, rfl, rfl, Below.refl _ _⟩
  case round =>
    obtain ⟨j, hj, rfl, rfl, hu⟩ := hrel
    by_cases hlt2 : j < l.length
    · obtain ⟨x, hx⟩ := some_of_lt hlt2
      obtain ⟨b1, o1, rfl, c1, c2, c3⟩ := sx.pair (hd.of_below hu) hx
      have i1 : (0 : Int) ≤ (j : Int) := by omega
      have i2 : (j : Int) < (l.length : Int) := by omega
      have HT := Lib.hid (lastP_take hx s bb)
      generalize lastP (l.take j) s bb = lv at *
      by_cases h1 : x.s = s
      · have t1 : (x.s.toList == s.toList) = true := by rw [h1]; simp
        by_cases h2 : x.b = bb
        · have t2 : (x.b.toList == bb.toList) = true := by rw [h2]; simp
          have HN : Hid (lastP (l.take (j + 1)) s bb = x.amt) := by unfold Hid; rw [HT.out, if_pos (by simp [isP, h1, h2])]
          clear h1 h2 HT
          go_wp2
          go_roundw
          case rel => exact ⟨j + 1, by omega, by go_num, by rw [HN.out], hu.trans (Below.mono (by repeat (first | exact Below.refl _ _ | apply Below.drew | refine Below.alloc ?_ (by simp) _)) hu.size)⟩
          case measure => simp [intOf]; omega
        · have t2 : (x.b.toList == bb.toList) = false := beq_eq_false_iff_ne.2 fun e => h2 (tl_inj e)
          have HN : Hid (lastP (l.take (j + 1)) s bb = lv) := by unfold Hid; rw [HT.out, if_neg (by simp [isP, h2])]
          clear h1 h2 HT
          go_wp2
          go_roundw
          case rel => exact ⟨j + 1, by omega, by go_num, by rw [HN.out], hu.trans (Below.mono (by repeat (first | exact Below.refl _ _ | apply Below.drew | refine Below.alloc ?_ (by simp) _)) hu.size)⟩
          case measure => simp [intOf]; omega
      · have t1 : (x.s.toList == s.toList) = false := beq_eq_false_iff_ne.2 fun e => h1 (tl_inj e)
        have HN : Hid (lastP (l.take (j + 1)) s bb = lv) := by unfold Hid; rw [HT.out, if_neg (by simp [isP, h1])]
        clear h1 HT
        go_wp2
        go_roundw
        case rel => exact ⟨j + 1, by omega, by go_num, by rw [HN.out], hu.trans (Below.mono (by repeat (first | exact Below.refl _ _ | apply Below.drew | refine Below.alloc ?_ (by simp) _)) hu.size)⟩
        case measure => simp [intOf]; omega
    · obtain rfl : j = l.length := by omega
      rw [List.take_length]
      have l1 := HL.out l.length
      rw [List.take_length] at l1
      have hcr := (hu.cell (p := ⟨b, 0, none⟩) hlt).trans hc
      have hVe := HV.out
      generalize lastP l s bb = lv at *
      have hw1 : IntKind.i64.wrap (n + lv) = V := by rw [IntKind.wrap_i64]; omega
      have hV2 : -200000000000 ≤ V ∧ V ≤ 200000000000 := by omega
      clear hVe
      by_cases h0 : V < 0
      · have HE1 : Hid (addE l s bb n = 6) := by unfold Hid; rw [HE2.out, if_pos (by simp [h0])]
        have t3 : decide (V < 0) = true := decide_eq_true h0
        clear MV
        go_wp2
        go_ret
        exact NO HE1.out (by decide) hu
      have t3 : decide (V < 0) = false := decide_eq_false h0
      cases e4 : money V with
      | false =>
        have HE1 : Hid (addE l s bb n = 6) := by unfold Hid; rw [HE2.out, if_pos (by simp [e4])]
        rw [e4] at MV
        clear e4
        go_wp2_with (go_at_call 84; refine (MV _).mono ?_; rintro e w' ⟨rfl, rfl⟩)
        go_ret
        exact NO HE1.out (by decide) hu
      | true =>
      have HE3 : Hid (addE l s bb n = if 8 < (nextP l s bb V).length then 5 else 0) := by
        unfold Hid; rw [HE2.out, if_neg (by simp [e4]; omega)]
      rw [← hil] at HE3
      rw [e4] at MV
      clear e4 HE2
      obtain ⟨G, hG⟩ : ∃ G : Bool → List SPair → List SPair, G = setGo ordStr2 pkey ⟨s, bb, V⟩ := ⟨_, rfl⟩
      rw [← hG] at HE3 HRR
      have HG : ∀ d : Bool, Hid (G d [] = if d = true then [] else [⟨s, bb, V⟩]) := fun d => by rw [hG]; exact rfl
      have GS : ∀ {x : SPair} {d : Bool} {r : List SPair}, x.s = s → x.b = bb → G d (x :: r) = G d r := fun h1 h2 => by rw [hG]; exact goP_skip (by simp [pkey, h1, h2])
      have GK : ∀ {x : SPair} {d : Bool} {r : List SPair}, ¬(x.s = s ∧ x.b = bb) → (d = true ∨ ¬(cmpS s x.s = -1 ∨ s = x.s ∧ cmpS bb x.b = -1)) → G d (x :: r) = x :: G d r := fun h1 h2 => by
        rw [hG]; exact goP_keep (by simpa [pkey] using h1) (h2.imp id fun h => by simpa [ordStr2, pkey] using h)
      have GL : ∀ {x : SPair} {r : List SPair}, (cmpS s x.s = -1 ∨ s = x.s ∧ cmpS bb x.b = -1) → G false (x :: r) = ⟨s, bb, V⟩ :: x :: G true r := fun h => by rw [hG]; exact goP_lay (by simpa [ordStr2, pkey] using h)
      have hn0 : (V == 0) = decide (V = 0) := by rw [Bool.eq_iff_iff]; simp
      clear hG hil
      have E1 := ((Env.start w).below hu).new (Upd.of_below (Below.refl wr.heap.size wr))
      simp at E1
      go_wp2_with (go_at_call 84; refine (MV _).mono ?_; rintro e w' ⟨rfl, rfl⟩)
      rw [hn0] at *
      generalize decide (V = 0) = d0 at *
      clear MV hcr hw1 t3
      go_loopw [9, 13, 71] (fun v d i wr => ∃ (j cap m : Nat) (dn : Bool) (C : Option Addr) (h' : Hp) (os : List SPair), j ≤ l.length ∧ i = .int .i64 j ∧ d = .bool dn ∧ v = .slice C m cap ∧ Hid (os.length = m) ∧ Hid (G d0 l = os ++ G dn (l.drop j)) ∧ m ≤ 2 * j ∧ Ow kPair h' C cap os ∧ Env w wr [h']) (fun _ _ i _ => l.length - (intOf i).toNat)
      case atStart => exact ⟨0, 0, 0, d0, none, Hp.none, [], by omega, rfl, rfl, rfl, rfl, by unfold Hid; simp, by omega, Ow.none _ _, E1⟩
      case round =>
        clear E1
        obtain ⟨j, cap, m, dn, C, h', os, hj, rfl, rfl, rfl, hm, hg, hm2, o, E⟩ := hrel
        by_cases hlt2 : j < l.length
        · obtain ⟨x, hx⟩ := some_of_lt hlt2
          obtain ⟨b1, o1, rfl, c1, c2, c3⟩ := sx.pair (hd.of_below E.low) hx
          have i1 : (0 : Int) ≤ (j : Int) := by omega
          have i2 : (j : Int) < (l.length : Int) := by omega
          have HD : Hid (G d0 l = os ++ G dn (x :: l.drop (j + 1))) := by unfold Hid; rw [hg.out, drop_next hx]
          have s1 := cmpS_swap x.s s
          have s2 := cmpS_swap x.b bb
          have k1 := cmpB_rng x.s.data.toList s.data.toList
          have k2 := cmpB_rng x.b.data.toList bb.data.toList
          have z1 : cmpS x.s s = 0 ↔ x.s = s := cmpS_eq
          have z2 : cmpS x.b bb = 0 ↔ x.b = bb := cmpS_eq
          change cmpS x.s s = -1 ∨ cmpS x.s s = 0 ∨ cmpS x.s s = 1 at k1
          change cmpS x.b bb = -1 ∨ cmpS x.b bb = 0 ∨ cmpS x.b bb = 1 at k2
          have l1 := blS x.s s
          have l2 := blS x.b bb
          clear hg
          by_cases ha : x.s = s
          · by_cases hb2 : x.b = bb
            · have hk := True.intro
              have t1 : (x.s.toList == s.toList) = true := by rw [ha]; simp
              have t2 : (x.b.toList == bb.toList) = true := by rw [hb2]; simp
              have HN := Lib.hid (HD.out.trans (by rw [GS ha hb2]))
              clear hk GS GK GL HD HG HL s1 s2 k1 k2 z1 z2; (try clear l1 l2); (try clear hl); (try clear hg); (try clear z3); (try clear hb2); clear ha
              go_wp2
              go_roundw
              case rel => exact ⟨j + 1, cap, m, _, C, h', os, by omega, by go_num, rfl, rfl, hm, HN, by omega, o, E.alloc' _⟩
              case measure => simp [intOf]; omega
            · have hk : ¬(x.s = s ∧ x.b = bb) := fun h => hb2 h.2
              cases dn with
              | true =>
                have t1 : (x.s.toList == s.toList) = true := by rw [ha]; simp
                have t2 : (x.b.toList == bb.toList) = false := beq_eq_false_iff_ne.2 fun e => hb2 (tl_inj e)
                have HN : Hid (G d0 l = (os ++ [x]) ++ G true (l.drop (j + 1))) := by unfold Hid; rw [HD.out, GK hk (.inl rfl), appa1]
                clear hk GS GK GL HD HG HL s1 s2 k1 k2 z1 z2; (try clear l1 l2); (try clear hl); (try clear hg); (try clear z3); (try clear hb2); clear ha
                go_wp2_with (at_builtin; refine wpList_eapp 0 x Try.underlying64 info_pair19 (by repeat (first | (with_reducible exact E) | (with_reducible apply Env.drew) | (with_reducible apply Env.drewN) | (with_reducible apply Env.alloc'))) (by rfl) o m hm.out (by rfl) (by rfl) rfl 1 (by rfl) (by rfl) (heap_new_at (by simp)) (by rfl) (by omega) (by omega) ?_; intro C5 n5 w5 h5 o5 E5)
                simp at E5
                go_roundw
                case rel => exact ⟨j + 1, n5, m + 1, _, C5, h5, os ++ [x], by omega, by go_num, rfl, rfl, by unfold Hid; rw [List.length_append, hm.out]; rfl, HN, by omega, o5, E5⟩
                case measure => simp [intOf]; omega
              | false =>
                have z3 : cmpS x.b bb ≠ 0 := fun e => hb2 (z2.1 e)
                by_cases hg : cmpS bb x.b = -1
                · have lx : Op.bytesLess x.b.toList bb.toList = false := by rw [l2]; simp; omega
                  have t1 : (x.s.toList == s.toList) = true := by rw [ha]; simp
                  have t2 : (x.b.toList == bb.toList) = false := beq_eq_false_iff_ne.2 fun e => hb2 (tl_inj e)
                  clear l1 l2
                  have HN : Hid (G d0 l = (os ++ [⟨s, bb, V⟩] ++ [x]) ++ G true (l.drop (j + 1))) := by unfold Hid; rw [HD.out, GL (.inr ⟨ha.symm, hg⟩), appa2]
                  clear hk GS GK GL HD HG HL s1 s2 k1 k2 z1 z2; (try clear l1 l2); (try clear hl); (try clear hg); (try clear z3); (try clear hb2); clear ha
                  have hm3 : Hid ((os ++ [(⟨s, bb, V⟩ : SPair)]).length = m + 1) := by unfold Hid; rw [List.length_append, hm.out]; rfl
                  go_upto_region 18 with fail
                  replace E := E.alloc (.cells #[.string x.s, .string x.b, .int .i64 x.amt] 68)
                  simp at E
                  obtain ⟨W, hW⟩ : ∃ W : World, W = wr.alloc (.cells #[.string x.s, .string x.b, .int .i64 x.amt] 68) := ⟨_, rfl⟩
                  rw [← hW] at E
                  rw [← hW]
                  clear hW
                  have q0 := E.cell 1 rfl 0 rfl
                  have q1 := E.cell 1 rfl 1 rfl
                  have q2 := E.cell 1 rfl 2 rfl
                  generalize wr.heap.size = bw at *
                  clear c1 c2 c3
                  go_wp2_with (first | ((at_builtin; refine wpList_eapp 0 ⟨s, bb, V⟩ Try.underlying64 info_pair19 (by repeat (first | (with_reducible exact E) | (with_reducible apply Env.drew) | (with_reducible apply Env.drewN) | (with_reducible apply Env.alloc'))) (by rfl) o m hm.out (by rfl) (by rfl) rfl 1 (by rfl) (by rfl) (heap_new_at (by simp)) (by rfl) (by omega) (by omega) ?_; intro C5 n5 w5 h5 o5 E5); simp at E5; have r0 := E5.cell 1 rfl 0 rfl; have r1 := E5.cell 1 rfl 1 rfl; have r2 := E5.cell 1 rfl 2 rfl; clear q0 q1 q2) | ((at_builtin; refine wpList_eapp 0 x Try.underlying64 info_pair19 (by repeat (first | (with_reducible exact E5) | (with_reducible apply Env.drew) | (with_reducible apply Env.drewN) | (with_reducible apply Env.alloc'))) (by rfl) o5 (m+1) hm3.out (by rfl) (by rfl) rfl 1 (by rfl) (by rfl) (heap_new_at (by simp)) (by rfl) (by omega) (by omega) ?_; intro C6 n6 w6 h6 o6 E6); replace E6 := E6.drop 1; simp at E6))
                  go_roundw
                  case rel => exact ⟨j + 1, n6, m + 1 + 1, _, C6, h6, os ++ [⟨s, bb, V⟩] ++ [x], by omega, by go_num, rfl, rfl, by unfold Hid; rw [List.length_append, hm3.out]; rfl, HN, by omega, o6, E6⟩
                  case measure => simp [intOf]; omega
                · have lx : Op.bytesLess x.b.toList bb.toList = true := by rw [l2]; simp; omega
                  have hl : ¬(cmpS s x.s = -1 ∨ s = x.s ∧ cmpS bb x.b = -1) := by rintro (h | h); (· rw [ha] at h; rw [cmpS_self] at h; omega); (· exact hg h.2)
                  have t1 : (x.s.toList == s.toList) = true := by rw [ha]; simp
                  have t2 : (x.b.toList == bb.toList) = false := beq_eq_false_iff_ne.2 fun e => hb2 (tl_inj e)
                  clear l1 l2
                  have HN : Hid (G d0 l = (os ++ [x]) ++ G false (l.drop (j + 1))) := by unfold Hid; rw [HD.out, GK hk (.inr hl), appa1]
                  clear hk GS GK GL HD HG HL s1 s2 k1 k2 z1 z2; (try clear l1 l2); (try clear hl); (try clear hg); (try clear z3); (try clear hb2); clear ha
                  go_wp2_with (at_builtin; refine wpList_eapp 0 x Try.underlying64 info_pair19 (by repeat (first | (with_reducible exact E) | (with_reducible apply Env.drew) | (with_reducible apply Env.drewN) | (with_reducible apply Env.alloc'))) (by rfl) o m hm.out (by rfl) (by rfl) rfl 1 (by rfl) (by rfl) (heap_new_at (by simp)) (by rfl) (by omega) (by omega) ?_; intro C5 n5 w5 h5 o5 E5)
                  simp at E5
                  go_roundw
                  case rel => exact ⟨j + 1, n5, m + 1, _, C5, h5, os ++ [x], by omega, by go_num, rfl, rfl, by unfold Hid; rw [List.length_append, hm.out]; rfl, HN, by omega, o5, E5⟩
                  case measure => simp [intOf]; omega
          · have hk : ¬(x.s = s ∧ x.b = bb) := fun h => ha h.1
            cases dn with
            | true =>
              have t1 : (x.s.toList == s.toList) = false := beq_eq_false_iff_ne.2 fun e => ha (tl_inj e)
              have HN : Hid (G d0 l = (os ++ [x]) ++ G true (l.drop (j + 1))) := by unfold Hid; rw [HD.out, GK hk (.inl rfl), appa1]
              clear hk GS GK GL HD HG HL s1 s2 k1 k2 z1 z2; (try clear l1 l2); (try clear hl); (try clear hg); (try clear z3); (try clear hb2); clear ha
              go_wp2_with (at_builtin; refine wpList_eapp 0 x Try.underlying64 info_pair19 (by repeat (first | (with_reducible exact E) | (with_reducible apply Env.drew) | (with_reducible apply Env.drewN) | (with_reducible apply Env.alloc'))) (by rfl) o m hm.out (by rfl) (by rfl) rfl 1 (by rfl) (by rfl) (heap_new_at (by simp)) (by rfl) (by omega) (by omega) ?_; intro C5 n5 w5 h5 o5 E5)
              simp at E5
              go_roundw
              case rel => exact ⟨j + 1, n5, m + 1, _, C5, h5, os ++ [x], by omega, by go_num, rfl, rfl, by unfold Hid; rw [List.length_append, hm.out]; rfl, HN, by omega, o5, E5⟩
              case measure => simp [intOf]; omega
            | false =>
              have z3 : cmpS x.s s ≠ 0 := fun e => ha (z1.1 e)
              by_cases hg : cmpS s x.s = -1
              · have lx : Op.bytesLess x.s.toList s.toList = false := by rw [l1]; simp; omega
                have t1 : (x.s.toList == s.toList) = false := beq_eq_false_iff_ne.2 fun e => ha (tl_inj e)
                clear l1 l2
                have HN : Hid (G d0 l = (os ++ [⟨s, bb, V⟩] ++ [x]) ++ G true (l.drop (j + 1))) := by unfold Hid; rw [HD.out, GL (.inl hg), appa2]
                clear hk GS GK GL HD HG HL s1 s2 k1 k2 z1 z2; (try clear l1 l2); (try clear hl); (try clear hg); (try clear z3); (try clear hb2); clear ha
                have hm3 : Hid ((os ++ [(⟨s, bb, V⟩ : SPair)]).length = m + 1) := by unfold Hid; rw [List.length_append, hm.out]; rfl
                go_upto_region 18 with fail
                replace E := E.alloc (.cells #[.string x.s, .string x.b, .int .i64 x.amt] 68)
                simp at E
                obtain ⟨W, hW⟩ : ∃ W : World, W = wr.alloc (.cells #[.string x.s, .string x.b, .int .i64 x.amt] 68) := ⟨_, rfl⟩
                rw [← hW] at E
                rw [← hW]
                clear hW
                have q0 := E.cell 1 rfl 0 rfl
                have q1 := E.cell 1 rfl 1 rfl
                have q2 := E.cell 1 rfl 2 rfl
                generalize wr.heap.size = bw at *
                clear c1 c2 c3
                go_wp2_with (first | ((at_builtin; refine wpList_eapp 0 ⟨s, bb, V⟩ Try.underlying64 info_pair19 (by repeat (first | (with_reducible exact E) | (with_reducible apply Env.drew) | (with_reducible apply Env.drewN) | (with_reducible apply Env.alloc'))) (by rfl) o m hm.out (by rfl) (by rfl) rfl 1 (by rfl) (by rfl) (heap_new_at (by simp)) (by rfl) (by omega) (by omega) ?_; intro C5 n5 w5 h5 o5 E5); simp at E5; have r0 := E5.cell 1 rfl 0 rfl; have r1 := E5.cell 1 rfl 1 rfl; have r2 := E5.cell 1 rfl 2 rfl; clear q0 q1 q2) | ((at_builtin; refine wpList_eapp 0 x Try.underlying64 info_pair19 (by repeat (first | (with_reducible exact E5) | (with_reducible apply Env.drew) | (with_reducible apply Env.drewN) | (with_reducible apply Env.alloc'))) (by rfl) o5 (m+1) hm3.out (by rfl) (by rfl) rfl 1 (by rfl) (by rfl) (heap_new_at (by simp)) (by rfl) (by omega) (by omega) ?_; intro C6 n6 w6 h6 o6 E6); replace E6 := E6.drop 1; simp at E6))
                go_roundw
                case rel => exact ⟨j + 1, n6, m + 1 + 1, _, C6, h6, os ++ [⟨s, bb, V⟩] ++ [x], by omega, by go_num, rfl, rfl, by unfold Hid; rw [List.length_append, hm3.out]; rfl, HN, by omega, o6, E6⟩
                case measure => simp [intOf]; omega
              · have lx : Op.bytesLess x.s.toList s.toList = true := by rw [l1]; simp; omega
                have hl : ¬(cmpS s x.s = -1 ∨ s = x.s ∧ cmpS bb x.b = -1) := by rintro (h | h); (· exact hg h); (· exact ha h.1.symm)
                have t1 : (x.s.toList == s.toList) = false := beq_eq_false_iff_ne.2 fun e => ha (tl_inj e)
                clear l1 l2
                have HN : Hid (G d0 l = (os ++ [x]) ++ G false (l.drop (j + 1))) := by unfold Hid; rw [HD.out, GK hk (.inr hl), appa1]
                clear hk GS GK GL HD HG HL s1 s2 k1 k2 z1 z2; (try clear l1 l2); (try clear hl); (try clear hg); (try clear z3); (try clear hb2); clear ha
                go_wp2_with (at_builtin; refine wpList_eapp 0 x Try.underlying64 info_pair19 (by repeat (first | (with_reducible exact E) | (with_reducible apply Env.drew) | (with_reducible apply Env.drewN) | (with_reducible apply Env.alloc'))) (by rfl) o m hm.out (by rfl) (by rfl) rfl 1 (by rfl) (by rfl) (heap_new_at (by simp)) (by rfl) (by omega) (by omega) ?_; intro C5 n5 w5 h5 o5 E5)
                simp at E5
                go_roundw
                case rel => exact ⟨j + 1, n5, m + 1, _, C5, h5, os ++ [x], by omega, by go_num, rfl, rfl, by unfold Hid; rw [List.length_append, hm.out]; rfl, HN, by omega, o5, E5⟩
                case measure => simp [intOf]; omega
        · obtain rfl : j = l.length := by omega
          rw [List.drop_length] at hg
          have hfr := fun n => (E.low.frozen (p := ⟨b, n, none⟩) hlt).trans (hfz n)
          have hcr := (E.low.cell (p := ⟨b, 0, none⟩) hlt).trans hc
          have HGo := HG dn
          clear HG HL GS GK GL
          cases dn with
          | true =>
            have HN : Hid (G d0 l = os) := by unfold Hid; rw [hg.out, HGo.out, if_pos rfl, List.append_nil]
            have hml := hm
            clear hg HGo
            by_cases h8 : 8 < m
            · have HE1 : Hid (addE l s bb n = 5) := by unfold Hid; rw [HE3.out, if_pos (by rw [HN.out, hml.out]; exact h8)]
              have t5 : decide ((8 : Int) < ((m : Nat) : Int)) = true := by simp; omega
              skip
              go_wp2
              go_ret
              exact NO HE1.out (by decide) E.low
            · have HE0 : Hid (addE l s bb n = 0) := by unfold Hid; rw [HE3.out, if_neg (by rw [HN.out, hml.out]; exact h8)]
              have HRe : Hid (addW l s bb n = os) := by unfold Hid; rw [HRR.out HE0.out, HN.out]
              clear HE3 HRR
              go_wp2
              obtain ⟨UF, hn3⟩ := Upd.field (v := .slice C (m) cap) 0 hb hs (Hp.none_le _) (E.made (h := h') (by simp))
              go_ret
              exact ⟨_, by rw [HE0.out]; rfl, ⟨_, Hp.put_self, C, cap, by rw [HRe.out, hml.out]; rfl, by rw [Hp.put_del hn3, HRe.out]; exact o⟩, UF⟩
          | false =>
            have HN : Hid (G d0 l = os ++ [⟨s, bb, V⟩]) := by unfold Hid; rw [hg.out, HGo.out, if_neg (by decide)]
            have hml : Hid ((os ++ [(⟨s, bb, V⟩ : SPair)]).length = m + 1) := by unfold Hid; rw [List.length_append, hm.out]; rfl
            clear hg HGo
            by_cases h8 : 8 < m + 1
            · have HE1 : Hid (addE l s bb n = 5) := by unfold Hid; rw [HE3.out, if_pos (by rw [HN.out, hml.out]; exact h8)]
              have t5 : decide ((8 : Int) < (m : Int) + 1) = true := by simp; omega
              clear HE3 HRR
              go_wp2_with ((at_builtin; refine wpList_eapp 0 ⟨s, bb, V⟩ Try.underlying64 info_pair19 (by repeat (first | (with_reducible exact E) | (with_reducible apply Env.drew) | (with_reducible apply Env.drewN) | (with_reducible apply Env.alloc'))) (by rfl) o m hm.out (by rfl) (by rfl) rfl 1 (by rfl) (by rfl) (heap_new_at (by simp)) (by rfl) (by omega) (by omega) ?_; intro C5 n5 w5 h5 o5 E5); simp at E5; have hcr5 := (E5.low.cell (p := ⟨b, 0, none⟩) hlt).trans hc; have hfr5 := fun n => (E5.low.frozen (p := ⟨b, n, none⟩) hlt).trans (hfz n))
              go_ret
              exact NO HE1.out (by decide) E5.low
            · have HE1 : Hid (addE l s bb n = 0) := by unfold Hid; rw [HE3.out, if_neg (by rw [HN.out, hml.out]; exact h8)]
              have t5 : decide ((8 : Int) < (m : Int) + 1) = false := by simp; omega
              have HRe : Hid (addW l s bb n = os ++ [⟨s, bb, V⟩]) := by unfold Hid; rw [HRR.out HE1.out, HN.out]
              clear HE3 HRR
              go_wp2_with ((at_builtin; refine wpList_eapp 0 ⟨s, bb, V⟩ Try.underlying64 info_pair19 (by repeat (first | (with_reducible exact E) | (with_reducible apply Env.drew) | (with_reducible apply Env.drewN) | (with_reducible apply Env.alloc'))) (by rfl) o m hm.out (by rfl) (by rfl) rfl 1 (by rfl) (by rfl) (heap_new_at (by simp)) (by rfl) (by omega) (by omega) ?_; intro C5 n5 w5 h5 o5 E5); simp at E5; have hcr5 := (E5.low.cell (p := ⟨b, 0, none⟩) hlt).trans hc; have hfr5 := fun n => (E5.low.frozen (p := ⟨b, n, none⟩) hlt).trans (hfz n))
              obtain ⟨UF, hn3⟩ := Upd.field (v := .slice C5 (m + 1) n5) 0 hb hs (Hp.none_le _) (E5.made (h := h5) (by simp))
              go_ret
              exact ⟨_, by rw [HE1.out]; rfl, ⟨_, Hp.put_self, C5, n5, by rw [HRe.out, hml.out]; rfl, by rw [Hp.put_del hn3, HRe.out]; exact o5⟩, UF⟩
end Go.Proofs.Ytdcfojohgcmpcaa
end
section
/- The law CrossOrder, plain. -/
namespace Go.Sl
open Go Go.RowKit
def sO (v : Int) : ByteArray := if within v 3 = 0 then ⟨#[112]⟩ else if within v 3 = 1 then ⟨#[113]⟩ else ⟨#[114]⟩
def bO (v : Int) : ByteArray := if within v 2 = 0 then ⟨#[117]⟩ else ⟨#[118]⟩
def kO (x : Nat → Int) : ByteArray × ByteArray := (sO (x 0), bO (x 1))
def aO (x : Nat → Int) : Int := within (x 2) 1000
theorem aO_bd (x : Nat → Int) : 0 ≤ aO x ∧ aO x ≤ 1000 := ⟨within_lo _ (by omega), by unfold aO; have := within_hi (x 2) (n := 1000) (by omega); omega⟩
theorem noS_sO (v : Int) : noS (sO v) = false := by unfold sO; split <;> (try split) <;> (rw [noS_mk]; rfl)
theorem noS_bO (v : Int) : noS (bO v) = false := by unfold bO; split <;> (rw [noS_mk]; rfl)
theorem sO_ne (v u : Int) : sO v ≠ bO u := by unfold sO bO; split <;> (try split) <;> (try split) <;> decide
theorem kO_ok (x : Nat → Int) : okK (kO x) := by
  unfold okK kO sO bO
  refine ⟨?_, ?_⟩ <;> dsimp only <;> split <;> (try split) <;> decide
def tot : List (Nat → Int) → ByteArray × ByteArray → Int
  | [], _ => 0
  | x :: l, k => (if kO x = k then aO x else 0) + tot l k
theorem tot_append (k : ByteArray × ByteArray) : ∀ l m : List (Nat → Int), tot (l ++ m) k = tot l k + tot m k
  | [], m => by simp [tot]
  | x :: l, m => by have := tot_append k l m; simp only [List.cons_append, tot, this]; omega
theorem tot_snoc (l : List (Nat → Int)) (x : Nat → Int) (k : ByteArray × ByteArray) : tot (l ++ [x]) k = tot l k + if kO x = k then aO x else 0 := by rw [tot_append]; simp [tot]
theorem tot_rev (k : ByteArray × ByteArray) : ∀ l : List (Nat → Int), tot l.reverse k = tot l k
  | [] => rfl
  | x :: l => by have := tot_rev k l; rw [List.reverse_cons, tot_snoc, this]; simp only [tot]; omega
theorem tot_bd (k : ByteArray × ByteArray) : ∀ l : List (Nat → Int), 0 ≤ tot l k ∧ tot l k ≤ 1000 * l.length
  | [] => by simp [tot]
  | x :: l => by
    have h := tot_bd k l
    have h2 := aO_bd x
    simp only [tot, List.length_cons]
    split <;> omega
structure StO (ys : List (Nat → Int)) (l : List SPair) : Prop where
  good : GoodP l
  len : l.length ≤ ys.length
  has : ∀ k : ByteArray × ByteArray, hasP l k.1 k.2 = tot ys k
theorem StO.nil : StO [] [] := ⟨GoodP.nil, by simp, fun _ => rfl⟩
theorem hasP_put {l : List SPair} (h : Rising ordStr2 pkey l) (s b : ByteArray) (v : Int) (k : ByteArray × ByteArray) : hasP (put ordStr2 pkey ⟨s, b, v⟩ l) k.1 k.2 = if (s, b) = k then v else hasP l k.1 k.2 := by
  obtain ⟨k1, k2⟩ := k
  unfold hasP
  simp only
  rw [find_put _ h]
  by_cases e : (k1, k2) = (s, b)
  · rw [if_pos (show (k1, k2) = pkey ⟨s, b, v⟩ from e), if_pos e.symm]
  · rw [if_neg (show ¬(k1, k2) = pkey ⟨s, b, v⟩ from e), if_neg (Ne.symm e)]
theorem hasP_del {l : List SPair} (h : Rising ordStr2 pkey l) (s b : ByteArray) (k : ByteArray × ByteArray) : hasP (del pkey (s, b) l) k.1 k.2 = if (s, b) = k then 0 else hasP l k.1 k.2 := by
  obtain ⟨k1, k2⟩ := k
  unfold hasP
  simp only
  rw [find_del _ h]
  by_cases e : (k1, k2) = (s, b)
  · rw [if_pos e, if_pos e.symm]
  · rw [if_neg e, if_neg (Ne.symm e)]
theorem StO.add {ys : List (Nat → Int)} {l : List SPair} (S : StO ys l) (hl : ys.length < 8) (x : Nat → Int) :
    ∃ q, (addE l (sO (x 0)) (bO (x 1)) (aO x) = 0 ∧ addW l (sO (x 0)) (bO (x 1)) (aO x) = q) ∧ StO (ys ++ [x]) q := by
  have h0 := S.has (kO x)
  have h1 := tot_bd (kO x) ys
  have h2 := aO_bd x
  simp only [kO] at h0 h1
  have hd := List.length_filter_le (fun y => !decide (pkey y = (sO (x 0), bO (x 1)))) l
  have hdl : (del pkey (sO (x 0), bO (x 1)) l).length ≤ l.length := by unfold del; exact hd
  have hlen := S.len
  have hq : (if hasP l (sO (x 0)) (bO (x 1)) + aO x = 0 then del pkey (sO (x 0), bO (x 1)) l else put ordStr2 pkey ⟨sO (x 0), bO (x 1), hasP l (sO (x 0)) (bO (x 1)) + aO x⟩ l).length ≤ l.length + 1 := by
    split
    · omega
    · rw [len_put _ S.good.rise]
      show (del pkey (sO (x 0), bO (x 1)) l).length + 1 ≤ _
      omega
  have ha := addE_new S.good (noS_sO (x 0)) (noS_bO (x 1)) (sO_ne _ _) (n := aO x) (by omega) (by omega) rfl (by omega)
  refine ⟨_, ha, by have := S.good.add (sO (x 0)) (bO (x 1)) (aO x); rw [ha.2] at this; exact this, by rw [List.length_append]; simp only [List.length_cons, List.length_nil]; omega, fun k => ?_⟩
  rw [tot_snoc]
  have hk := S.has k
  split
  · rename_i hz
    rw [hasP_del S.good.rise, hk]
    by_cases e : (sO (x 0), bO (x 1)) = k
    · rw [if_pos e, if_pos (show kO x = k from e)]
      have h3 : tot ys k = hasP l (sO (x 0)) (bO (x 1)) := by rw [← hk, ← e]
      omega
    · rw [if_neg e, if_neg (show ¬kO x = k from e)]; omega
  · rw [hasP_put S.good.rise, hk]
    by_cases e : (sO (x 0), bO (x 1)) = k
    · rw [if_pos e, if_pos (show kO x = k from e)]
      have h3 : tot ys k = hasP l (sO (x 0)) (bO (x 1)) := by rw [← hk, ← e]
      omega
    · rw [if_neg e, if_neg (show ¬kO x = k from e)]; omega
theorem mem_hasP {l : List SPair} (g : GoodP l) (x : SPair) : x ∈ l ↔ hasP l x.s x.b = x.amt ∧ 1 ≤ x.amt := by
  constructor
  · intro h
    have h1 := find_mem g.rise h
    refine ⟨?_, (g.amt x h).1⟩
    unfold hasP
    rw [show (x.s, x.b) = pkey x from rfl, h1]
  · rintro ⟨h1, h2⟩
    unfold hasP at h1
    cases h : find pkey (x.s, x.b) l with
    | none => rw [h] at h1; simp only at h1; omega
    | some r =>
      rw [h] at h1
      obtain ⟨h3, h4⟩ := find_some h
      simp only at h1
      have : r = x := by
        cases r; cases x
        simp only [pkey, Prod.mk.injEq] at h4
        simp only at h1
        simp [h1, h4.1, h4.2]
      rw [← this]; exact h3
theorem StO.same {ys zs : List (Nat → Int)} {l m : List SPair} (S : StO ys l) (T : StO zs m) (h : ∀ k, tot ys k = tot zs k) : l = m :=
  Rising.ext ordStr2 pkey S.good.rise T.good.rise fun x => by
    rw [mem_hasP S.good, mem_hasP T.good]
    have h1 := S.has (x.s, x.b)
    have h2 := T.has (x.s, x.b)
    simp only at h1 h2
    rw [h1, h2, h]
theorem accP_mem {ms : List ((ByteArray × ByteArray) × Int)} (hd : ms.Pairwise fun x y => x.1 ≠ y.1) (k : ByteArray × ByteArray) : accP k ms ≠ 0 ↔ k ∈ (ms.filter fun r => decide (r.2 ≠ 0)).map (·.1) := by
  constructor
  · intro h
    by_cases hk : ∃ r ∈ ms, r.1 = k
    · obtain ⟨r, hr, e⟩ := hk
      obtain ⟨j, hj⟩ := List.getElem?_of_mem hr
      have := accP_at hd hj
      rw [e] at this
      exact List.mem_map.2 ⟨r, List.mem_filter.2 ⟨hr, by simp only [decide_eq_true_eq]; omega⟩, e⟩
    · exact absurd (accP_miss fun r hr e => hk ⟨r, hr, e⟩) h
  · intro h
    obtain ⟨r, hr, e⟩ := List.mem_map.1 h
    obtain ⟨hr, h2⟩ := List.mem_filter.1 hr
    obtain ⟨j, hj⟩ := List.getElem?_of_mem hr
    have := accP_at hd hj
    rw [e] at this
    simp only [decide_eq_true_eq] at h2
    omega
theorem StO.count {ys : List (Nat → Int)} {l : List SPair} (S : StO ys l) {ms : List ((ByteArray × ByteArray) × Int)} (hd : ms.Pairwise fun x y => x.1 ≠ y.1) (ha : ∀ k, accP k ms = tot ys k) :
    (ms.filter fun r => decide (r.2 ≠ 0)).length = l.length := by
  have n1 : ((ms.filter fun r => decide (r.2 ≠ 0)).map (·.1)).Nodup := List.pairwise_map.2 (hd.filter _)
  have n2 : (l.map pkey).Nodup := List.pairwise_map.2 (S.good.rise.imp fun e => ordStr2.ne e)
  have hp := (List.perm_ext_iff_of_nodup n1 n2).2 fun k => by
    rw [← accP_mem hd k, ha k, ← S.has k]
    constructor
    · intro h
      have h0 := hasP_bd S.good k.1 k.2
      have := (mem_hasP S.good ⟨k.1, k.2, hasP l k.1 k.2⟩).2 ⟨rfl, by simp only; omega⟩
      exact List.mem_map.2 ⟨_, this, rfl⟩
    · intro h
      obtain ⟨x, hx, e⟩ := List.mem_map.1 h
      have h1 := (mem_hasP S.good x).1 hx
      rw [← e]
      show hasP l x.s x.b ≠ 0
      omega
  simpa using hp.length_eq
/-- A row told behind another. -/
theorem StO.next {ys : List (Nat → Int)} {l : List SPair} (S : StO ys l) {i j : Nat} (hij : i < j) {x y : SPair} (hx : l[i]? = some x) (hy : l[j]? = some y) : cmpS x.s y.s = -1 ∨ x.s = y.s ∧ cmpS x.b y.b = -1 := by
  obtain ⟨h1, e1⟩ := List.getElem?_eq_some_iff.1 hx
  obtain ⟨h2, e2⟩ := List.getElem?_eq_some_iff.1 hy
  have h := List.pairwise_iff_getElem.1 S.good.rise i j h1 h2 hij
  rw [e1, e2] at h
  simpa [ordStr2, pkey] using h
end Go.Sl
end
section
/- '==' and '!=' of structs as one Bool. No program is named here. -/
namespace Go.Sl
open Go Go.RowKit
section
variable {P : Program} {d : Nat} {xs ys : Array Value} {f : Field} {fs : List Field} {a b : Value} {r s : Bool} {w : World}

theorem eqFields_nil : (Op.eqFields d xs ys []).run P w = .ok true w := by simp [Op.eqFields]
theorem eqFields_cons (hn : (f.name == "_") = false) (ha : (Go.part f.type xs f.offset).run P w = .ok a w) (hb : (Go.part f.type ys f.offset).run P w = .ok b w)
    (he : (Op.equalIn d f.type a b).run P w = .ok r w) (hr : (Op.eqFields d xs ys fs).run P w = .ok s w) : (Op.eqFields d xs ys (f :: fs)).run P w = .ok (r && s) w := by
  have hn' : f.name ≠ "_" := by simpa using hn
  rw [Op.eqFields]
  simp only [if_pos hn', Sem.run_bind, ha, hb, he, Result.andThen_ok]
  cases r
  · simp
  · simpa using hr
theorem equalIn_struct {t : TypeId} {fs : Array Field} (hu : P.underlying t = some (.struct fs)) (hp : P.stoodInHeld t = false)
    (h : (Op.eqFields d xs ys fs.toList).run P w = .ok r w) : (Op.equalIn (d + 1) t (.agg xs) (.agg ys)).run P w = .ok r w := by
  have hf : P.fieldsOf t = fs := by simp [Program.fieldsOf, hu]
  rw [run_equalIn_struct (P := P) w d t xs ys (by rw [hf]; exact hu) hp, hf]
  exact h
theorem neq_struct {t : TypeId} (h : (Op.equalIn 10000 t (.agg xs) (.agg ys)).run P w = .ok r w) : (binOp .neq t (.agg xs) (.agg ys)).run P w = .ok (.bool (!r)) w := by
  rw [run_neq_struct, h]; rfl
theorem eql_struct {t : TypeId} (h : (Op.equalIn 10000 t (.agg xs) (.agg ys)).run P w = .ok r w) : (binOp .eql t (.agg xs) (.agg ys)).run P w = .ok (.bool r) w := by
  rw [run_eql_struct, h]; rfl
end
end Go.Sl
end
section
/- '==' and '!=' of cross.Row. -/
namespace Go.Proofs.Ytdcfojohgcmpcaa
open Go.RowKit Go.Sl
set_option maxHeartbeats 1000000
set_option maxRecDepth 100000
theorem equalIn_crow (d : Nat) (x0 y0 : ByteArray) (x1 y1 : ByteArray) (x2 y2 : Int) (w : World) : (Op.equalIn (d + 2) 27 (.agg #[.string x0, .string x1, .int .i64 x2]) (.agg #[.string y0, .string y1, .int .i64 y2])).run Try.prog w = .ok ((x0.toList == y0.toList) && ((x1.toList == y1.toList) && (x2 == y2 && (true)))) w := by
  refine equalIn_struct (d := d + 1) Try.underlying27 (by kernel_rfl) ?_
  refine eqFields_cons (by rfl) (by go_simp) (by go_simp) (run_equalIn_string _ _ _ _ _ Try.underlying9) ?_
  refine eqFields_cons (by rfl) (by go_simp) (by go_simp) (run_equalIn_string _ _ _ _ _ Try.underlying9) ?_
  refine eqFields_cons (by rfl) (by go_simp; rfl) (by go_simp; rfl) (by go_simp) ?_
  exact eqFields_nil
theorem eqc_crow (x y : SPair) : (x.s.toList == y.s.toList && (x.b.toList == y.b.toList && (x.amt == y.amt && (true)))) = decide (x = y) := by
  rw [Bool.eq_iff_iff]; cases x; cases y; simp [tl_iff]
theorem ne_crow (x y : SPair) (w : World) : (binOp .neq 27 (.agg #[.string x.s, .string x.b, .int .i64 x.amt]) (.agg #[.string y.s, .string y.b, .int .i64 y.amt])).run Try.prog w = .ok (.bool (neB x y)) w := by
  have h := equalIn_crow 9998 x.s y.s x.b y.b x.amt y.amt w
  simp only [Nat.reduceAdd] at h
  rw [neq_struct h, eqc_crow]; rfl
theorem eq_crow (x y : SPair) (w : World) : (binOp .eql 27 (.agg #[.string x.s, .string x.b, .int .i64 x.amt]) (.agg #[.string y.s, .string y.b, .int .i64 y.amt])).run Try.prog w = .ok (.bool (eqB x y)) w := by
  have h := equalIn_crow 9998 x.s y.s x.b y.b x.amt y.amt w
  simp only [Nat.reduceAdd] at h
  rw [eql_struct h, eqc_crow]; rfl
end Go.Proofs.Ytdcfojohgcmpcaa
end
section
/- keep.Same over cross.Row: the same things? -/
namespace Go.Proofs.Ytdcfojohgcmpcaa
open Go.RowKit Go.Sl
set_option maxHeartbeats 1000000
set_option maxRecDepth 100000
theorem same_crow (A B : Option Addr) (ca cb : Nat) (xs ys : List SPair) (h k : Hp) (w : World) (hs : h.sub w) (ks : k.sub w) (sx : Sl kPair h A ca xs) (sy : Sl kPair k B cb ys) :
    Calls Try.prog 29 #[.slice A xs.length ca, .slice B ys.length cb] w fun e w' => e = .returned (.bool (eqB xs ys)) ∧ Below w.heap.size w w' := by
  have m1 := sx.small
  have m2 := sy.small
  by_cases hl : xs.length = ys.length
  · have hl1 : ((xs.length : Int) == (ys.length : Int)) = true := by simp [hl]
    have hl2 : ((xs.length : Int) != (ys.length : Int)) = false := by simp [hl]
    have hL := Lib.hid hl
    clear hl
    go_enter Try.func29, Try.ntmps29
    go_wp2
    clear hl1 hl2
    go_loopw [5] (fun i wr => ∃ j : Nat, j ≤ xs.length ∧ i = .int .i64 j ∧ Hid (xs.take j = ys.take j) ∧ Below w.heap.size w wr) (fun i _ => xs.length - (intOf i).toNat)
    case atStart => exact ⟨0, by omega, rfl, rfl, Below.refl _ _⟩
    case round =>
      obtain ⟨j, hj, rfl, he, hb⟩ := hrel
      by_cases hlt : j < xs.length
      · have hlt2 : j < ys.length := by have := hL.out; omega
        obtain ⟨x, hx⟩ := some_of_lt hlt
        obtain ⟨y, hy⟩ := some_of_lt hlt2
        obtain ⟨b1, o1, rfl, c1, c2, c3⟩ := sx.pair (hs.of_below hb) hx
        obtain ⟨b2, o2, rfl, d1, d2, d3⟩ := sy.pair (ks.of_below hb) hy
        have hn := ne_crow x y
        have i1 : (0 : Int) ≤ (j : Int) := by omega
        have i2 : (j : Int) < (xs.length : Int) := by omega
        have i3 : (j : Int) < (ys.length : Int) := by omega
        have hE := take_both hx hy
        by_cases hxy : x = y
        · have hd := neB_f hxy
          have hE2 := hE.2 ⟨he, hxy⟩
          clear hxy hE
          go_wp2
          go_region_held3 (fun w' => w'.cell? ⟨b1, o1 + j * 3, none⟩ = some (.string x.s) ∧ w'.cell? ⟨b1, o1 + j * 3 + 1, none⟩ = some (.string x.b) ∧ w'.cell? ⟨b1, o1 + j * 3 + 2, none⟩ = some (.int .i64 x.amt) ∧ w'.cell? ⟨b2, o2 + j * 3, none⟩ = some (.string y.s) ∧ w'.cell? ⟨b2, o2 + j * 3 + 1, none⟩ = some (.string y.b) ∧ w'.cell? ⟨b2, o2 + j * 3 + 2, none⟩ = some (.int .i64 y.amt)) (go_keep) (fail)
          go_wp2
          go_roundw
          case rel => exact ⟨j + 1, by omega, by go_num, hE2, hb.drew⟩
          case measure => simp [intOf]; omega
        · have hd := neB_t hxy
          have hne : Hid (xs ≠ ys) := fun e => hxy (by have := hx.out; rw [e, hy.out] at this; exact (Option.some.inj this).symm)
          clear hxy hE
          go_wp2
          go_region_held3 (fun w' => w'.cell? ⟨b1, o1 + j * 3, none⟩ = some (.string x.s) ∧ w'.cell? ⟨b1, o1 + j * 3 + 1, none⟩ = some (.string x.b) ∧ w'.cell? ⟨b1, o1 + j * 3 + 2, none⟩ = some (.int .i64 x.amt) ∧ w'.cell? ⟨b2, o2 + j * 3, none⟩ = some (.string y.s) ∧ w'.cell? ⟨b2, o2 + j * 3 + 1, none⟩ = some (.string y.b) ∧ w'.cell? ⟨b2, o2 + j * 3 + 2, none⟩ = some (.int .i64 y.amt)) (go_keep) (fail)
          go_wp2
          go_ret
          exact ⟨by rw [eqB_f hne.out]; rfl, hb.drew⟩
      · have hfin : Hid (xs = ys) := by
          have h1 := he.out
          have hjl : j = xs.length := by omega
          rw [hjl, List.take_length] at h1
          rw [h1, hL.out, List.take_length]; rfl
        go_wp2
        go_ret
        exact ⟨by rw [eqB_t hfin.out]; rfl, hb⟩
  · have hl1 : ((xs.length : Int) == (ys.length : Int)) = false := by simp; omega
    have hl2 : ((xs.length : Int) != (ys.length : Int)) = true := by simp; omega
    have hne : Hid (xs ≠ ys) := fun e => hl (by rw [e])
    clear hl
    go_enter Try.func29, Try.ntmps29
    go_wp2
    go_ret
    exact ⟨by rw [eqB_f hne.out]; rfl, Below.refl _ _⟩
end Go.Proofs.Ytdcfojohgcmpcaa
end
section
/- Whole structs and rows at an Env: load and store in one. -/
namespace Go.Sl
open Go Go.RowKit
section
variable {w0 w : World} {l : List Hp} {b : Nat} {cs : List Value} {T : TypeId}
theorem Env.range (E : Env w0 w l) (i : Nat) (hi : l[i]? = some (Hp.box b cs T)) : w.rangeAt b 0 cs := fun j v hv => by
  rw [Nat.zero_add]; exact E.cell i hi j hv
theorem Env.there (E : Env w0 w l) (i : Nat) (hi : l[i]? = some (Hp.box b cs T)) (n : Nat) (hn : cs.length = n) : w.there b 0 n := fun j hj => by
  rw [Nat.zero_add]
  have hj' : j < cs.length := by omega
  exact ⟨by rw [E.cell i hi j (List.getElem?_eq_getElem hj')]; rfl, E.free i hi j⟩
theorem Env.setFrom : ∀ (vs pre old : List Value) {w : World} {l : List Hp} (i : Nat), Env w0 w l → l[i]? = some (Hp.box b (pre ++ old) T) → vs.length = old.length →
    Env w0 (w.setCells b pre.length vs) (l.set i (Hp.box b (pre ++ vs) T))
  | [], pre, old, w, l, i, E, hi, hl => by
    obtain rfl : old = [] := List.length_eq_zero_iff.1 hl.symm
    have : l.set i (Hp.box b (pre ++ []) T) = l := by
      apply List.ext_getElem?
      intro j
      rw [List.getElem?_set]
      split
      · rename_i h; subst h
        split
        · exact hi.symm
        · rename_i h2; rw [List.getElem?_eq_none (by omega)]
      · rfl
    rw [this]; exact E
  | v :: vs, pre, o :: old, w, l, i, E, hi, hl => by
    have E2 := E.cellset i hi pre.length v
    have hs : (pre ++ o :: old).set pre.length v = (pre ++ [v]) ++ old := by simp
    rw [hs] at E2
    have hil : i < l.length := (List.getElem?_eq_some_iff.1 hi).1
    have E3 := Env.setFrom vs (pre ++ [v]) old i E2 (by rw [List.getElem?_set_self hil]) (by simpa using hl)
    rw [List.set_set, List.append_assoc, List.singleton_append, List.length_append, List.length_singleton] at E3
    exact E3
  | v :: vs, pre, [], w, l, i, E, hi, hl => by simp at hl
/-- A whole struct is stored over. -/
theorem Env.setAll (E : Env w0 w l) (i : Nat) (hi : l[i]? = some (Hp.box b cs T)) (vs : List Value) (hl : vs.length = cs.length) : Env w0 (w.setCells b 0 vs) (l.set i (Hp.box b vs T)) :=
  Env.setFrom vs [] cs i E (by simpa using hi) hl
end
end Go.Sl
end
