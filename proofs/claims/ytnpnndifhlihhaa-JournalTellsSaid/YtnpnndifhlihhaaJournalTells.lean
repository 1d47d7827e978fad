/- The walk of the law JournalTells. -/
import Derived.Test.YtnpnndifhlihhaaSomeTurn
import Derived.Test.YtnpnndifhlihhaaRefCheck
import Derived.Test.YtnpnndifhlihhaaWakes06
import Derived.Test.YtnpnndifhlihhaaJournalMerges
import Derived.BigRegion
namespace Go.Proofs.Ytnpnndifhlihhaa
open Go.RowKit Go.Sl
set_option maxHeartbeats 4000000
set_option maxRecDepth 100000
theorem some_calls (A B : Option Addr) (ca cb : Nat) (ks ams : List Int) (at_ what : Int) (raw : Bool) (h k : Hp) (w : World) (hs : h.sub w) (qs : k.sub w) (sx : Sl kInt h A ca ks) (sy : Sl kInt k B cb ams)
    (hw : ∀ n ∈ ams, I64 n) :
    Calls Try.prog 23 #[.slice A ks.length ca, .slice B ams.length cb, .int .i64 at_, .int .i64 what, .bool raw] w fun e w' => SomeLines w e w' := by
  cases raw with
  | true => exact someRaw_calls A B ca cb ks ams at_ what h k w hs qs sx sy hw
  | false => exact someRight_calls A B ca cb ks ams at_ what h k w hs qs sx sy hw
theorem few_all (xs : List SItem) : ((xs.all fun x => money x.amt) && decide ((xs.length : Int) ≤ 40)) = fewB xs := by
  have : decide ((xs.length : Int) ≤ 40) = decide (xs.length ≤ 40) := by rw [decide_eq_decide]; omega
  rw [this, Bool.and_comm]; rfl
theorem journalTells_calls (A B : Option Addr) (ca cb : Nat) (ks zs : List Int) (at_ what : Int) (raw : Bool) (ac : Int) (hA hB : Hp) (w : World) (sA : hA.sub w) (sB : hB.sub w) (s1 : Sl kInt hA A ca ks) (s2 : Sl kInt hB B cb zs)
    (w2 : ∀ n ∈ zs, I64 n) :
    Calls Try.prog 7 #[.slice A ks.length ca, .slice B zs.length cb, .int .i64 at_, .int .i64 what, .bool raw, .int .i64 ac] w fun e w' => e = .returned (.bool true) ∧ Below w.heap.size w w' := by
  have R1 := some_calls A B ca cb ks zs at_ what raw hA hB w sA sB s1 s2 w2
  have r1 := within_lo ac (n := 7) (by omega)
  have r2 := within_hi ac (n := 7) (by omega)
  have CW := fun W : World => within_calls ac 7 W (by omega) (by omega)
  generalize within ac 7 = a at *
  go_enter Try.func7, Try.ntmps7
  go_wp2_with fail
  refine R1.mono ?_
  rintro e v1 ⟨L, C1, c1, h1, hl, rfl, o1, u1⟩
  have ol := o1.sl
  clear R1 sA sB s1 s2 w2
  have hu := u1.sub
  have bw := u1.below
  clear o1 u1
  go_wp2_with fail
  refine (copy_line C1 c1 L h1 v1 hu ol (by omega)).mono ?_
  rintro e v2 ⟨C2, c2, h2, rfl, o2, u2⟩
  have b2 := u2.below
  have hu2 := u2.sub
  have ol2 := o2.sl
  clear o2 u2
  go_wp2_with fail
  refine (CW _).mono ?_
  rintro e w' ⟨rfl, rfl⟩
  have QA := all_calls C1 c1 L 40 h1 v2 (hu.of_below b2) ol
  rw [few_all] at QA
  have hfin : ∀ (c : Bool), fewB L = c → True := fun _ _ => trivial
  cases hf : fewB L with
  | true =>
    rw [hf] at QA
    have ht := Tame.of_few hf
    have hmF : Hid (mergeF L = merge L) := by unfold Hid mergeF; rw [if_pos hf]
    have hnF : Hid (netF L (1 + a) = accSum (1 + a) L) := by unfold Hid netF; rw [if_pos hf]
    clear hf
    go_wp2_with fail
    refine QA.mono ?_
    rintro e v3 ⟨rfl, b3⟩
    have b13 := b2.trans (b3.mono b2.size)
    go_wp2_with fail
    refine (refMerge_calls C1 c1 L h1 v3 (hu.of_below b13) ol ht).mono ?_
    rintro e v4 ⟨CM, cm, hM, rfl, oM, uM⟩
    have b14 := b13.trans (uM.below.mono b13.size)
    have b24 := b3.trans (uM.below.mono b3.size)
    have olM := oM.sl
    have huM := uM.sub
    clear oM uM
    rw [← hmF.out] at olM ⊢
    go_wp2
    go_loopw [16, 43] (fun s i wr => ∃ (j : Nat), j ≤ L.length ∧ i = .int .i64 j ∧ s = .int .i64 (accSum (1 + a) (L.take j)) ∧ Below v4.heap.size v4 wr) (fun _ i _ => L.length - (intOf i).toNat)
    case atStart => exact ⟨0, by omega, rfl, rfl, Below.refl _ _⟩
    case round =>
      obtain ⟨j, hj, rfl, rfl, hb⟩ := hrel
      obtain ⟨q1, q2⟩ := (ht.take j).acc (1 + a)
      by_cases hlt : j < L.length
      · obtain ⟨x, hx⟩ := some_of_lt hlt
        obtain ⟨b1, o1, rfl, d1, d2⟩ := ol.item ((hu.of_below b14).of_below hb) hx
        obtain ⟨q3, q4⟩ := ht.amt x (List.mem_of_getElem? hx.out)
        have i1 : (0 : Int) ≤ (j : Int) := by omega
        have i2 : (j : Int) < (L.length : Int) := by omega
        by_cases hk : x.kind = 1 + a
        · have hkb : (x.kind == 1 + a) = true := by simpa using hk
          have HT : Hid (accSum (1 + a) (L.take (j + 1)) = accSum (1 + a) (L.take j) + x.amt) := by unfold Hid; rw [take_next hx, accSum_snoc, if_pos hk]
          clear hk
          go_wp2
          go_roundw
          case rel => exact ⟨j + 1, by omega, by go_num, by rw [HT.out], hb.alloc hb.size _⟩
          case measure => simp [intOf]; omega
        · have hkb : (x.kind == 1 + a) = false := by simpa using hk
          have HT : Hid (accSum (1 + a) (L.take (j + 1)) = accSum (1 + a) (L.take j)) := by unfold Hid; rw [take_next hx, accSum_snoc, if_neg hk, Int.add_zero]
          clear hk
          go_wp2
          go_roundw
          case rel => exact ⟨j + 1, by omega, by go_num, by rw [HT.out], hb.alloc hb.size _⟩
          case measure => simp [intOf]; omega
      · obtain rfl : j = L.length := by omega
        rw [List.take_length, ← hnF.out]
        have b1r := b14.trans (hb.mono b14.size)
        have nM := huM.of_below hb
        have b2r := b24.trans (hb.mono b24.size)
        obtain ⟨M, hM'⟩ : ∃ M, M = mergeF L := ⟨_, rfl⟩
        obtain ⟨nt, hN'⟩ : ∃ nt, nt = netF L (1 + a) := ⟨_, rfl⟩
        have HW : Hid (mergeF L = M) := hM'.symm
        have HN : Hid (netF L (1 + a) = nt) := hN'.symm
        rw [← hN', ← hM']
        rw [← hM'] at olM
        clear hM' hN' hmF hnF
        obtain ⟨wo, rfl⟩ : ∃ wo : World, wo = wr := ⟨_, rfl⟩
        go_wp2
        go_loopw [19, 20, 58] (fun d c i wr => ∃ (j : Nat), j ≤ L.length ∧ i = .int .i64 j ∧ d = .int .i64 (debs (L.take j)) ∧ c = .int .i64 (cres (L.take j)) ∧ Below wo.heap.size wo wr) (fun _ _ i _ => L.length - (intOf i).toNat)
        case atStart => exact ⟨0, by omega, rfl, rfl, rfl, Below.refl _ _⟩
        case round =>
          obtain ⟨j, hj, rfl, rfl, rfl, hb'⟩ := hrel
          by_cases hlt' : j < L.length
          · obtain ⟨x, hx⟩ := some_of_lt hlt'
            obtain ⟨b1, o1, rfl, d1, d2⟩ := ol.item ((hu.of_below b1r).of_below hb') hx
            have i1 : (0 : Int) ≤ (j : Int) := by omega
            have i2 : (j : Int) < (L.length : Int) := by omega
            have HTd : Hid (debs (L.take (j + 1)) = debs (L.take j) + deb x.amt) := by unfold Hid; rw [take_next hx, debs_snoc]
            have HTc : Hid (cres (L.take (j + 1)) = cres (L.take j) + cre x.amt) := by unfold Hid; rw [take_next hx, cres_snoc]
            have QM := fun W : World => refMoney_calls x.amt W
            by_cases hm : money x.amt = true
            · rw [hm] at QM
              go_wp2_with (go_at_call 34; refine (QM _).mono ?_; rintro e w' ⟨rfl, rfl⟩)
              go_region
              have mb : -100000000000 ≤ x.amt ∧ x.amt ≤ 100000000000 := by simpa [money] using hm
              have B1 := debs_le (L.take j)
              have B2 := cres_le (L.take j)
              rw [List.length_take] at B1 B2
              have E1 : wrap64 ((debs (L.take j) : Int) + if x.amt < 0 then 0 else x.amt) = (debs (L.take (j + 1)) : Int) := by
                rw [HTd.out]; simp only [deb, hm, if_true, wrap64]; split <;> omega
              have E2 : wrap64 ((cres (L.take j) : Int) + if wrap64 (-x.amt) < 0 then 0 else wrap64 (-x.amt)) = (cres (L.take (j + 1)) : Int) := by
                rw [HTc.out, wrap64_id (n := -x.amt) (by omega) (by omega)]; simp only [cre, hm, if_true, wrap64]; split <;> omega
              rw [E1, E2]
              clear mb B1 B2 E1 E2 hm
              go_wp2
              go_roundw
              case rel => exact ⟨j + 1, by omega, by go_num, rfl, rfl, (hb'.alloc hb'.size _).drew⟩
              case measure => simp [intOf]; omega
            · have hm' : money x.amt = false := by simpa using hm
              rw [hm'] at QM
              have HD0 : Hid (debs (L.take (j + 1)) = debs (L.take j)) := by unfold Hid; rw [HTd.out]; simp [deb, hm']
              have HC0 : Hid (cres (L.take (j + 1)) = cres (L.take j)) := by unfold Hid; rw [HTc.out]; simp [cre, hm']
              clear hm hm'
              go_wp2_with (go_at_call 34; refine (QM _).mono ?_; rintro e w' ⟨rfl, rfl⟩)
              go_roundw
              case rel => exact ⟨j + 1, by omega, by go_num, by rw [HD0.out], by rw [HC0.out], hb'.alloc hb'.size _⟩
              case measure => simp [intOf]; omega
          · obtain rfl : j = L.length := by omega
            rw [List.take_length]
            have d1 := debs_le L
            have d2 := cres_le L
            have e1 : debs L < 2 ^ 53 := by omega
            have e2 : cres L < 2 ^ 53 := by omega
            have b1q := b1r.trans (hb'.mono b1r.size)
            have CB := fun W : World => both_calls (debs L) (cres L) W e1 e2
            have CC := check_calls C1 c1 L h1 wr (hu.of_below b1q) ol
            have SM := refCheck_same L
            have CS := fun W (hW : Below v1.heap.size v1 W) => sidesOfLines_calls C1 c1 L h1 W (hu.of_below hW) ol (by omega)
            have CR := fun W (hW : Below v1.heap.size v1 W) => refCheck_calls C1 c1 L h1 W (hu.of_below hW) ol
            have hE : checkE L = 0 ∨ checkE L = 2 := by unfold checkE; split <;> simp
            generalize refCheckB L = rc at *
            generalize debs L = dd at *
            generalize cres L = cc at *
            clear d1 d2 e1 e2
            have fin : ∀ (c : Int), (c = 0 ∨ c = 2) → checkE L = c → True := fun _ _ _ => trivial
            rcases hE with hE | hE
            all_goals
              rw [hE] at CC SM
              have SM' : rc = _ := SM.symm
              subst SM'
              clear hE fin
              go_wp2_with fail
              refine CC.mono ?_
              rintro e z1 ⟨rfl, y1⟩
              have k1 := b1q.trans (y1.mono b1q.size)
              go_wp2_with fail
              refine (CS _ k1).mono ?_
              rintro e z2 ⟨rfl, y2⟩
              have k2 := k1.trans (y2.mono k1.size)
              go_wp2_with fail
              refine (CB _).mono ?_
              rintro e w' ⟨rfl, rfl⟩
              go_wp2_with fail
              refine (CR _ k2).mono ?_
              rintro e z3 ⟨rfl, y3⟩
              have k3 := k2.trans (y3.mono k2.size)
              have M4 := mergeF_calls C1 c1 L h1 z3 (hu.of_below k3) ol
              rw [HW.out] at M4
              go_wp2_with fail
              refine M4.mono ?_
              rintro e z4 ⟨D4, c4, h4, rfl, o4, u4⟩
              have k4 := k3.trans (u4.below.mono k3.size)
              have g1 := hb'.trans (y1.mono hb'.size)
              have g2 := g1.trans (y2.mono g1.size)
              have g3 := g2.trans (y3.mono g2.size)
              have g4 := g3.trans (u4.below.mono g3.size)
              have S1 := same_line D4 _ c4 _ _ _ h4 _ z4 u4.sub (nM.of_below g4) o4.sl olM
              rw [eqB_t rfl] at S1
              go_wp2_with fail
              refine S1.mono ?_
              rintro e z5 ⟨rfl, y5⟩
              have k5 := k4.trans (y5.mono k4.size)
              have g5 := g4.trans (y5.mono g4.size)
              clear S1 M4 o4 u4
              go_wp2_with fail
              refine (reverse_calls C1 c1 L h1 z5 (hu.of_below k5) ol (by omega)).mono ?_
              rintro e z6 ⟨D6, c6, h6, rfl, o6, u6⟩
              have k6 := k5.trans (u6.below.mono k5.size)
              have g6 := g5.trans (u6.below.mono g5.size)
              go_wp2_with fail
              refine (refReverse_calls C1 c1 L h1 z6 (hu.of_below k6) ol (by omega)).mono ?_
              rintro e z7 ⟨D7, c7, h7, rfl, o7, u7⟩
              have k7 := k6.trans (u7.below.mono k6.size)
              have g7 := g6.trans (u7.below.mono g6.size)
              have S2 := same_line D6 D7 c6 c7 (reverseL L) (reverseL L) h6 h7 z7 (u6.sub.of_below u7.below) u7.sub o6.sl o7.sl
              rw [eqB_t rfl, reverseL_len] at S2
              go_wp2_with fail
              refine S2.mono ?_
              rintro e z8 ⟨rfl, y8⟩
              have k8 := k7.trans (y8.mono k7.size)
              have g8 := g7.trans (y8.mono g7.size)
              clear S2 o6 u6 o7 u7
              have NN := net_calls C1 c1 L (1 + a) h1 z8 (hu.of_below k8) ol
              rw [HN.out] at NN
              go_wp2_with fail
              refine NN.mono ?_
              rintro e z9 ⟨rfl, y9⟩
              have k9 := k8.trans (y9.mono k8.size)
              have g9 := g8.trans (y9.mono g8.size)
              have l9 := b2r.trans (g9.mono b2r.size)
              have S3 := same_line C1 C2 c1 c2 L L h1 h2 z9 (hu.of_below k9) (hu2.of_below l9) ol ol2
              rw [eqB_t rfl] at S3
              go_wp2_with fail
              refine S3.mono ?_
              rintro e z10 ⟨rfl, y10⟩
              have k10 := k9.trans (y10.mono k9.size)
              go_wp2_with fail
              refine (wakes06 _).mono ?_
              rintro e z11 ⟨rfl, y11⟩
              have k11 := k10.trans (y11.mono k10.size)
              go_wp2
              go_ret
              exact ⟨rfl, bw.trans (k11.mono bw.size)⟩
  | false =>
    rw [hf] at QA
    have hmF : Hid (mergeF L = []) := by unfold Hid mergeF; rw [if_neg (by rw [hf]; decide)]
    have hnF : Hid (netF L (1 + a) = 0) := by unfold Hid netF; rw [if_neg (by rw [hf]; decide)]
    clear hf
    go_wp2_with fail
    refine QA.mono ?_
    rintro e wr ⟨rfl, b3⟩
    have b1r := b2.trans (b3.mono b2.size)
    have b2r := b3
    have HW := hmF
    have HN := hnF
    have olM : Sl kItem Hp.none none 0 [] := Sl.none _ _
    have nM := Hp.none_sub wr
    obtain ⟨wo, rfl⟩ : ∃ wo : World, wo = wr := ⟨_, rfl⟩
    go_wp2
    go_loopw [19, 20, 58] (fun d c i wr => ∃ (j : Nat), j ≤ L.length ∧ i = .int .i64 j ∧ d = .int .i64 (debs (L.take j)) ∧ c = .int .i64 (cres (L.take j)) ∧ Below wo.heap.size wo wr) (fun _ _ i _ => L.length - (intOf i).toNat)
    case atStart => exact ⟨0, by omega, rfl, rfl, rfl, Below.refl _ _⟩
    case round =>
      obtain ⟨j, hj, rfl, rfl, rfl, hb'⟩ := hrel
      by_cases hlt' : j < L.length
      · obtain ⟨x, hx⟩ := some_of_lt hlt'
        obtain ⟨b1, o1, rfl, d1, d2⟩ := ol.item ((hu.of_below b1r).of_below hb') hx
        have i1 : (0 : Int) ≤ (j : Int) := by omega
        have i2 : (j : Int) < (L.length : Int) := by omega
        have HTd : Hid (debs (L.take (j + 1)) = debs (L.take j) + deb x.amt) := by unfold Hid; rw [take_next hx, debs_snoc]
        have HTc : Hid (cres (L.take (j + 1)) = cres (L.take j) + cre x.amt) := by unfold Hid; rw [take_next hx, cres_snoc]
        have QM := fun W : World => refMoney_calls x.amt W
        by_cases hm : money x.amt = true
        · rw [hm] at QM
          go_wp2_with (go_at_call 34; refine (QM _).mono ?_; rintro e w' ⟨rfl, rfl⟩)
          go_region
          have mb : -100000000000 ≤ x.amt ∧ x.amt ≤ 100000000000 := by simpa [money] using hm
          have B1 := debs_le (L.take j)
          have B2 := cres_le (L.take j)
          rw [List.length_take] at B1 B2
          have E1 : wrap64 ((debs (L.take j) : Int) + if x.amt < 0 then 0 else x.amt) = (debs (L.take (j + 1)) : Int) := by
            rw [HTd.out]; simp only [deb, hm, if_true, wrap64]; split <;> omega
          have E2 : wrap64 ((cres (L.take j) : Int) + if wrap64 (-x.amt) < 0 then 0 else wrap64 (-x.amt)) = (cres (L.take (j + 1)) : Int) := by
            rw [HTc.out, wrap64_id (n := -x.amt) (by omega) (by omega)]; simp only [cre, hm, if_true, wrap64]; split <;> omega
          rw [E1, E2]
          clear mb B1 B2 E1 E2 hm
          go_wp2
          go_roundw
          case rel => exact ⟨j + 1, by omega, by go_num, rfl, rfl, (hb'.alloc hb'.size _).drew⟩
          case measure => simp [intOf]; omega
        · have hm' : money x.amt = false := by simpa using hm
          rw [hm'] at QM
          have HD0 : Hid (debs (L.take (j + 1)) = debs (L.take j)) := by unfold Hid; rw [HTd.out]; simp [deb, hm']
          have HC0 : Hid (cres (L.take (j + 1)) = cres (L.take j)) := by unfold Hid; rw [HTc.out]; simp [cre, hm']
          clear hm hm'
          go_wp2_with (go_at_call 34; refine (QM _).mono ?_; rintro e w' ⟨rfl, rfl⟩)
          go_roundw
          case rel => exact ⟨j + 1, by omega, by go_num, by rw [HD0.out], by rw [HC0.out], hb'.alloc hb'.size _⟩
          case measure => simp [intOf]; omega
      · obtain rfl : j = L.length := by omega
        rw [List.take_length]
        have d1 := debs_le L
        have d2 := cres_le L
        have e1 : debs L < 2 ^ 53 := by omega
        have e2 : cres L < 2 ^ 53 := by omega
        have b1q := b1r.trans (hb'.mono b1r.size)
        have CB := fun W : World => both_calls (debs L) (cres L) W e1 e2
        have CC := check_calls C1 c1 L h1 wr (hu.of_below b1q) ol
        have SM := refCheck_same L
        have CS := fun W (hW : Below v1.heap.size v1 W) => sidesOfLines_calls C1 c1 L h1 W (hu.of_below hW) ol (by omega)
        have CR := fun W (hW : Below v1.heap.size v1 W) => refCheck_calls C1 c1 L h1 W (hu.of_below hW) ol
        have hE : checkE L = 0 ∨ checkE L = 2 := by unfold checkE; split <;> simp
        generalize refCheckB L = rc at *
        generalize debs L = dd at *
        generalize cres L = cc at *
        clear d1 d2 e1 e2
        have fin : ∀ (c : Int), (c = 0 ∨ c = 2) → checkE L = c → True := fun _ _ _ => trivial
        rcases hE with hE | hE
        all_goals
          rw [hE] at CC SM
          have SM' : rc = _ := SM.symm
          subst SM'
          clear hE fin
          go_wp2_with fail
          refine CC.mono ?_
          rintro e z1 ⟨rfl, y1⟩
          have k1 := b1q.trans (y1.mono b1q.size)
          go_wp2_with fail
          refine (CS _ k1).mono ?_
          rintro e z2 ⟨rfl, y2⟩
          have k2 := k1.trans (y2.mono k1.size)
          go_wp2_with fail
          refine (CB _).mono ?_
          rintro e w' ⟨rfl, rfl⟩
          go_wp2_with fail
          refine (CR _ k2).mono ?_
          rintro e z3 ⟨rfl, y3⟩
          have k3 := k2.trans (y3.mono k2.size)
          have M4 := mergeF_calls C1 c1 L h1 z3 (hu.of_below k3) ol
          rw [HW.out] at M4
          go_wp2_with fail
          refine M4.mono ?_
          rintro e z4 ⟨D4, c4, h4, rfl, o4, u4⟩
          have k4 := k3.trans (u4.below.mono k3.size)
          have g1 := hb'.trans (y1.mono hb'.size)
          have g2 := g1.trans (y2.mono g1.size)
          have g3 := g2.trans (y3.mono g2.size)
          have g4 := g3.trans (u4.below.mono g3.size)
          have S1 := same_line D4 _ c4 _ _ _ h4 _ z4 u4.sub (nM.of_below g4) o4.sl olM
          rw [eqB_t rfl] at S1
          go_wp2_with fail
          refine S1.mono ?_
          rintro e z5 ⟨rfl, y5⟩
          have k5 := k4.trans (y5.mono k4.size)
          have g5 := g4.trans (y5.mono g4.size)
          clear S1 M4 o4 u4
          go_wp2_with fail
          refine (reverse_calls C1 c1 L h1 z5 (hu.of_below k5) ol (by omega)).mono ?_
          rintro e z6 ⟨D6, c6, h6, rfl, o6, u6⟩
          have k6 := k5.trans (u6.below.mono k5.size)
          have g6 := g5.trans (u6.below.mono g5.size)
          go_wp2_with fail
          refine (refReverse_calls C1 c1 L h1 z6 (hu.of_below k6) ol (by omega)).mono ?_
          rintro e z7 ⟨D7, c7, h7, rfl, o7, u7⟩
          have k7 := k6.trans (u7.below.mono k6.size)
          have g7 := g6.trans (u7.below.mono g6.size)
          have S2 := same_line D6 D7 c6 c7 (reverseL L) (reverseL L) h6 h7 z7 (u6.sub.of_below u7.below) u7.sub o6.sl o7.sl
          rw [eqB_t rfl, reverseL_len] at S2
          go_wp2_with fail
          refine S2.mono ?_
          rintro e z8 ⟨rfl, y8⟩
          have k8 := k7.trans (y8.mono k7.size)
          have g8 := g7.trans (y8.mono g7.size)
          clear S2 o6 u6 o7 u7
          have NN := net_calls C1 c1 L (1 + a) h1 z8 (hu.of_below k8) ol
          rw [HN.out] at NN
          go_wp2_with fail
          refine NN.mono ?_
          rintro e z9 ⟨rfl, y9⟩
          have k9 := k8.trans (y9.mono k8.size)
          have g9 := g8.trans (y9.mono g8.size)
          have l9 := b2r.trans (g9.mono b2r.size)
          have S3 := same_line C1 C2 c1 c2 L L h1 h2 z9 (hu.of_below k9) (hu2.of_below l9) ol ol2
          rw [eqB_t rfl] at S3
          go_wp2_with fail
          refine S3.mono ?_
          rintro e z10 ⟨rfl, y10⟩
          have k10 := k9.trans (y10.mono k9.size)
          go_wp2_with fail
          refine (wakes06 _).mono ?_
          rintro e z11 ⟨rfl, y11⟩
          have k11 := k10.trans (y11.mono k10.size)
          go_wp2
          go_ret
          exact ⟨rfl, bw.trans (k11.mono bw.size)⟩
end Go.Proofs.Ytnpnndifhlihhaa
