/- The law RemeasureErrors: for every input it returns true, and its arguments read behind the call as before it. No conditions. -/
import Derived.Test.YthcapomobidnbaaPk6
section
/- The walk of law17.RemeasureErrors. -/
namespace Go.Sl
open Go Go.RowKit
def erRows (n : Int) : List SWay := [⟨1, 1, n, wrap64 (0 - n), 0⟩, ⟨1, 2, 0, wrap64 (n - 0), n⟩]
theorem erRows_fwd (n : Int) : fwd [⟨1, 1, n⟩] [⟨1, 2, n⟩] = erRows n := by
  simp [fwd, fwdRaw, fO, fC, ups, setO, setC, fM, isort, put, wkey, ordPair, erRows]
theorem er6 (n : Int) (h : 1 ≤ n ∧ n ≤ 1000) : remE (erRows n) [1, 1] [1, 1] = 0 := by
  have hm : money n = true := by simp [money]; omega
  have h1 : sumM (erRows n) [1, 1] = 0 := by simp [sumM, erRows, remM]; omega
  have h2 : sumR (erRows n) [1, 1] [1, 1] = 0 := by simp [sumR, erRows, remR]
  have ha : remAll (erRows n) [1, 1] [1, 1] = true := by simp [remAll, erRows, remOk, rightRate, hm]; decide
  exact (remE_ok rfl rfl ha (by rw [h1]; rfl) (by rw [h2]; rfl)).1
theorem er4 (n : Int) : remE (erRows n) [1, -1] [1, 1] = 1 := by
  have ha : remAll (erRows n) [1, -1] [1, 1] = false := by simp [remAll, erRows, remOk, rightRate]
  unfold remE; rw [if_neg (by simp [erRows]), if_pos ha]
theorem er5 (n : Int) : remE (erRows n) [1, 1] [1000001, 1] = 1 := by
  have ha : remAll (erRows n) [1, 1] [1000001, 1] = false := by simp [remAll, erRows, remOk, rightRate]
  unfold remE; rw [if_neg (by simp [erRows]), if_pos ha]
theorem erLen (n : Int) {os ns : List Int} (h : os.length ≠ 2 ∨ ns.length ≠ 2) : remE (erRows n) os ns = 1 := by
  unfold remE; rw [if_pos (by simpa [erRows] using h)]
theorem erMo {rows : List SWay} {os ns : List Int} {e : Int} (h : remE rows os ns = e) (h0 : e ≠ 0) : remMo rows os ns = 0 ∧ remRa rows os ns = 0 := ⟨by unfold remMo; rw [if_neg (by omega)], by unfold remRa; rw [if_neg (by omega)]⟩
end Go.Sl
namespace Go.Proofs.Ythcapomobidnbaa
open Go.RowKit Go.Sl
set_option maxHeartbeats 4000000
set_option maxRecDepth 100000
theorem remeasureErrors_calls (n0 : Int) (w : World) :
    Calls Try.prog 7 #[.int .i64 n0] w fun e w' => e = .returned (.bool true) ∧ Below w.heap.size w w' := by
  have l1 := within_lo n0 (n := 1000) (by omega)
  have l2 := within_hi n0 (n := 1000) (by omega)
  have WC := fun W => within_calls n0 1000 W (by omega) (by omega)
  generalize within n0 1000 = m at *
  have H6 := Lib.hid (er6 (1 + m) (by omega))
  have HF := Lib.hid (erRows_fwd (1 + m))
  have H4 := Lib.hid (er4 (1 + m))
  have H5 := Lib.hid (er5 (1 + m))
  have HL := fun (os ns : List Int) h => erLen (1 + m) (os := os) (ns := ns) h
  obtain ⟨n, hn⟩ : ∃ n, n = 1 + m := ⟨_, rfl⟩
  have EW := (((((((((((((((Env.start w).alloc (.cells #[.int .i64 1, .int .i64 1, .int .i64 n] 40)).alloc (.cells #[.int .i64 1, .int .i64 2, .int .i64 n] 40)).alloc (.cells #[.int .i64 1] 3)).alloc (.cells #[.int .i64 1] 3)).alloc (.cells #[.int .i64 1, .int .i64 1] 3)).alloc (.cells #[.int .i64 1] 3)).alloc (.cells #[.int .i64 1, .int .i64 1] 3)).alloc (.cells #[.int .i64 1, .int .i64 1, .int .i64 1] 3)).alloc (.cells #[.int .i64 1, .int .i64 (-1)] 3)).alloc (.cells #[.int .i64 1, .int .i64 1] 3)).alloc (.cells #[.int .i64 1, .int .i64 1] 3)).alloc (.cells #[.int .i64 1000001, .int .i64 1] 3)).alloc (.cells #[.int .i64 1, .int .i64 1] 3)).alloc (.cells #[.int .i64 1, .int .i64 1] 3)).alloc (.cells #[.slice none 0 0, .slice none 0 0, .int .i64 1, .slice (some ⟨(w.heap.size + 2), 0, none⟩) 1 1, .slice (some ⟨(w.heap.size + 3), 0, none⟩) 1 1, .int .i64 1, .slice (some ⟨(w.heap.size + 4), 0, none⟩) 2 2, .slice (some ⟨(w.heap.size + 5), 0, none⟩) 1 1, .int .i64 1, .slice (some ⟨(w.heap.size + 6), 0, none⟩) 2 2, .slice (some ⟨(w.heap.size + 7), 0, none⟩) 3 3, .int .i64 1, .slice (some ⟨(w.heap.size + 8), 0, none⟩) 2 2, .slice (some ⟨(w.heap.size + 9), 0, none⟩) 2 2, .int .i64 1, .slice (some ⟨(w.heap.size + 10), 0, none⟩) 2 2, .slice (some ⟨(w.heap.size + 11), 0, none⟩) 2 2, .int .i64 1, .slice (some ⟨(w.heap.size + 12), 0, none⟩) 2 2, .slice (some ⟨(w.heap.size + 13), 0, none⟩) 2 2, .int .i64 0] 49)
  simp at EW
  have ENT : ∀ j : Nat, j < 7 → ∃ (A B : Option Addr) (na nb : Nat) (os ns : List Int) (kA kB : Hp) (e : Int), Sl kInt kA A na os ∧ Sl kInt kB B nb ns ∧ remE (erRows n) os ns = e ∧ (e = 0 ∨ e = 1) ∧
      ∀ V, Env w V [Hp.box w.heap.size [.int .i64 1, .int .i64 1, .int .i64 n] 40, Hp.box (w.heap.size + 1) [.int .i64 1, .int .i64 2, .int .i64 n] 40, Hp.box (w.heap.size + 2) [.int .i64 1] 3, Hp.box (w.heap.size + 3) [.int .i64 1] 3, Hp.box (w.heap.size + 4) [.int .i64 1, .int .i64 1] 3, Hp.box (w.heap.size + 5) [.int .i64 1] 3, Hp.box (w.heap.size + 6) [.int .i64 1, .int .i64 1] 3, Hp.box (w.heap.size + 7) [.int .i64 1, .int .i64 1, .int .i64 1] 3, Hp.box (w.heap.size + 8) [.int .i64 1, .int .i64 (-1)] 3, Hp.box (w.heap.size + 9) [.int .i64 1, .int .i64 1] 3, Hp.box (w.heap.size + 10) [.int .i64 1, .int .i64 1] 3, Hp.box (w.heap.size + 11) [.int .i64 1000001, .int .i64 1] 3, Hp.box (w.heap.size + 12) [.int .i64 1, .int .i64 1] 3, Hp.box (w.heap.size + 13) [.int .i64 1, .int .i64 1] 3, Hp.box (w.heap.size + 14) [.slice none 0 0, .slice none 0 0, .int .i64 1, .slice (some ⟨(w.heap.size + 2), 0, none⟩) 1 1, .slice (some ⟨(w.heap.size + 3), 0, none⟩) 1 1, .int .i64 1, .slice (some ⟨(w.heap.size + 4), 0, none⟩) 2 2, .slice (some ⟨(w.heap.size + 5), 0, none⟩) 1 1, .int .i64 1, .slice (some ⟨(w.heap.size + 6), 0, none⟩) 2 2, .slice (some ⟨(w.heap.size + 7), 0, none⟩) 3 3, .int .i64 1, .slice (some ⟨(w.heap.size + 8), 0, none⟩) 2 2, .slice (some ⟨(w.heap.size + 9), 0, none⟩) 2 2, .int .i64 1, .slice (some ⟨(w.heap.size + 10), 0, none⟩) 2 2, .slice (some ⟨(w.heap.size + 11), 0, none⟩) 2 2, .int .i64 1, .slice (some ⟨(w.heap.size + 12), 0, none⟩) 2 2, .slice (some ⟨(w.heap.size + 13), 0, none⟩) 2 2, .int .i64 0] 49] → kA.sub V ∧ kB.sub V ∧ V.cell? ⟨w.heap.size + 14, 0 + j * 3, none⟩ = some (.slice A os.length na) ∧ V.cell? ⟨w.heap.size + 14, 0 + j * 3 + 1, none⟩ = some (.slice B ns.length nb) ∧ V.cell? ⟨w.heap.size + 14, 0 + j * 3 + 2, none⟩ = some (.int .i64 e) := by
    rw [← hn] at H6 HF H4 H5 HL
    intro j hj
    have hj' : j = 0 ∨ j = 1 ∨ j = 2 ∨ j = 3 ∨ j = 4 ∨ j = 5 ∨ j = 6 := by omega
    rcases hj' with rfl | rfl | rfl | rfl | rfl | rfl | rfl
    · exact ⟨_, _, _, _, _, _, _, _, 1, Sl.none kInt Hp.none, Sl.none kInt Hp.none, HL _ _ (by simp), by simp, fun V E => ⟨Hp.none_sub _, Hp.none_sub _, E.cell 14 rfl 0 rfl, E.cell 14 rfl 1 rfl, E.cell 14 rfl 2 rfl⟩⟩
    · exact ⟨_, _, _, _, _, _, _, _, 1, Sl.litInt (xs := [1]) (Hp.one_self (w.heap.size + 2) _) rfl (by unfold maxLen; simp), Sl.litInt (xs := [1]) (Hp.one_self (w.heap.size + 3) _) rfl (by unfold maxLen; simp), HL _ _ (by simp), by simp, fun V E => ⟨E.sub 2 rfl, E.sub 3 rfl, E.cell 14 rfl 3 rfl, E.cell 14 rfl 4 rfl, E.cell 14 rfl 5 rfl⟩⟩
    · exact ⟨_, _, _, _, _, _, _, _, 1, Sl.litInt (xs := [1, 1]) (Hp.one_self (w.heap.size + 4) _) rfl (by unfold maxLen; simp), Sl.litInt (xs := [1]) (Hp.one_self (w.heap.size + 5) _) rfl (by unfold maxLen; simp), HL _ _ (by simp), by simp, fun V E => ⟨E.sub 4 rfl, E.sub 5 rfl, E.cell 14 rfl 6 rfl, E.cell 14 rfl 7 rfl, E.cell 14 rfl 8 rfl⟩⟩
    · exact ⟨_, _, _, _, _, _, _, _, 1, Sl.litInt (xs := [1, 1]) (Hp.one_self (w.heap.size + 6) _) rfl (by unfold maxLen; simp), Sl.litInt (xs := [1, 1, 1]) (Hp.one_self (w.heap.size + 7) _) rfl (by unfold maxLen; simp), HL _ _ (by simp), by simp, fun V E => ⟨E.sub 6 rfl, E.sub 7 rfl, E.cell 14 rfl 9 rfl, E.cell 14 rfl 10 rfl, E.cell 14 rfl 11 rfl⟩⟩
    · exact ⟨_, _, _, _, _, _, _, _, 1, Sl.litInt (xs := [1, -1]) (Hp.one_self (w.heap.size + 8) _) rfl (by unfold maxLen; simp), Sl.litInt (xs := [1, 1]) (Hp.one_self (w.heap.size + 9) _) rfl (by unfold maxLen; simp), H4.out, by simp, fun V E => ⟨E.sub 8 rfl, E.sub 9 rfl, E.cell 14 rfl 12 rfl, E.cell 14 rfl 13 rfl, E.cell 14 rfl 14 rfl⟩⟩
    · exact ⟨_, _, _, _, _, _, _, _, 1, Sl.litInt (xs := [1, 1]) (Hp.one_self (w.heap.size + 10) _) rfl (by unfold maxLen; simp), Sl.litInt (xs := [1000001, 1]) (Hp.one_self (w.heap.size + 11) _) rfl (by unfold maxLen; simp), H5.out, by simp, fun V E => ⟨E.sub 10 rfl, E.sub 11 rfl, E.cell 14 rfl 15 rfl, E.cell 14 rfl 16 rfl, E.cell 14 rfl 17 rfl⟩⟩
    · exact ⟨_, _, _, _, _, _, _, _, 0, Sl.litInt (xs := [1, 1]) (Hp.one_self (w.heap.size + 12) _) rfl (by unfold maxLen; simp), Sl.litInt (xs := [1, 1]) (Hp.one_self (w.heap.size + 13) _) rfl (by unfold maxLen; simp), H6.out, by simp, fun V E => ⟨E.sub 12 rfl, E.sub 13 rfl, E.cell 14 rfl 18 rfl, E.cell 14 rfl 19 rfl, E.cell 14 rfl 20 rfl⟩⟩
  clear H4 H5 H6 HL
  rw [← hn] at HF
  have hb : 1 ≤ n ∧ n ≤ 1000 := by omega
  obtain ⟨hb1, hb2⟩ := hb
  have HN := Lib.hid hn
  go_enter Try.func7, Try.ntmps7
  go_wp2_with fail
  refine (WC _).mono ?_
  rintro e w' ⟨rfl, rfl⟩
  have hn2 : 1 + m = n := hn.symm
  clear hn WC
  go_wp2
  generalize (((((((((((((((w).alloc (.cells #[.int .i64 1, .int .i64 1, .int .i64 n] 40)).alloc (.cells #[.int .i64 1, .int .i64 2, .int .i64 n] 40)).alloc (.cells #[.int .i64 1] 3)).alloc (.cells #[.int .i64 1] 3)).alloc (.cells #[.int .i64 1, .int .i64 1] 3)).alloc (.cells #[.int .i64 1] 3)).alloc (.cells #[.int .i64 1, .int .i64 1] 3)).alloc (.cells #[.int .i64 1, .int .i64 1, .int .i64 1] 3)).alloc (.cells #[.int .i64 1, .int .i64 (-1)] 3)).alloc (.cells #[.int .i64 1, .int .i64 1] 3)).alloc (.cells #[.int .i64 1, .int .i64 1] 3)).alloc (.cells #[.int .i64 1000001, .int .i64 1] 3)).alloc (.cells #[.int .i64 1, .int .i64 1] 3)).alloc (.cells #[.int .i64 1, .int .i64 1] 3)).alloc (.cells #[.slice none 0 0, .slice none 0 0, .int .i64 1, .slice (some ⟨(w.heap.size + 2), 0, none⟩) 1 1, .slice (some ⟨(w.heap.size + 3), 0, none⟩) 1 1, .int .i64 1, .slice (some ⟨(w.heap.size + 4), 0, none⟩) 2 2, .slice (some ⟨(w.heap.size + 5), 0, none⟩) 1 1, .int .i64 1, .slice (some ⟨(w.heap.size + 6), 0, none⟩) 2 2, .slice (some ⟨(w.heap.size + 7), 0, none⟩) 3 3, .int .i64 1, .slice (some ⟨(w.heap.size + 8), 0, none⟩) 2 2, .slice (some ⟨(w.heap.size + 9), 0, none⟩) 2 2, .int .i64 1, .slice (some ⟨(w.heap.size + 10), 0, none⟩) 2 2, .slice (some ⟨(w.heap.size + 11), 0, none⟩) 2 2, .int .i64 1, .slice (some ⟨(w.heap.size + 12), 0, none⟩) 2 2, .slice (some ⟨(w.heap.size + 13), 0, none⟩) 2 2, .int .i64 0] 49) = W at *
  have BW := EW.low
  go_loopw [41] (fun i wr => ∃ (j : Nat), j ≤ 7 ∧ i = .int .i64 j ∧ Env w wr [Hp.box w.heap.size [.int .i64 1, .int .i64 1, .int .i64 n] 40, Hp.box (w.heap.size + 1) [.int .i64 1, .int .i64 2, .int .i64 n] 40, Hp.box (w.heap.size + 2) [.int .i64 1] 3, Hp.box (w.heap.size + 3) [.int .i64 1] 3, Hp.box (w.heap.size + 4) [.int .i64 1, .int .i64 1] 3, Hp.box (w.heap.size + 5) [.int .i64 1] 3, Hp.box (w.heap.size + 6) [.int .i64 1, .int .i64 1] 3, Hp.box (w.heap.size + 7) [.int .i64 1, .int .i64 1, .int .i64 1] 3, Hp.box (w.heap.size + 8) [.int .i64 1, .int .i64 (-1)] 3, Hp.box (w.heap.size + 9) [.int .i64 1, .int .i64 1] 3, Hp.box (w.heap.size + 10) [.int .i64 1, .int .i64 1] 3, Hp.box (w.heap.size + 11) [.int .i64 1000001, .int .i64 1] 3, Hp.box (w.heap.size + 12) [.int .i64 1, .int .i64 1] 3, Hp.box (w.heap.size + 13) [.int .i64 1, .int .i64 1] 3, Hp.box (w.heap.size + 14) [.slice none 0 0, .slice none 0 0, .int .i64 1, .slice (some ⟨(w.heap.size + 2), 0, none⟩) 1 1, .slice (some ⟨(w.heap.size + 3), 0, none⟩) 1 1, .int .i64 1, .slice (some ⟨(w.heap.size + 4), 0, none⟩) 2 2, .slice (some ⟨(w.heap.size + 5), 0, none⟩) 1 1, .int .i64 1, .slice (some ⟨(w.heap.size + 6), 0, none⟩) 2 2, .slice (some ⟨(w.heap.size + 7), 0, none⟩) 3 3, .int .i64 1, .slice (some ⟨(w.heap.size + 8), 0, none⟩) 2 2, .slice (some ⟨(w.heap.size + 9), 0, none⟩) 2 2, .int .i64 1, .slice (some ⟨(w.heap.size + 10), 0, none⟩) 2 2, .slice (some ⟨(w.heap.size + 11), 0, none⟩) 2 2, .int .i64 1, .slice (some ⟨(w.heap.size + 12), 0, none⟩) 2 2, .slice (some ⟨(w.heap.size + 13), 0, none⟩) 2 2, .int .i64 0] 49]) (fun i _ => 7 - (intOf i).toNat)
  case atStart => exact ⟨0, by omega, rfl, EW⟩
  case round =>
    clear EW BW
    obtain ⟨j, hj, rfl, E⟩ := hrel
    by_cases hlt : j < 7
    · obtain ⟨A, B, na, nb, os, ns, kA, kB, e, sa, sb, hE, h01, hV⟩ := ENT j hlt
      obtain ⟨ka, kb, c1, c2, c3⟩ := hV _ E
      rw [Nat.zero_add] at c1 c2 c3
      have i1 : (0 : Int) ≤ (j : Int) := by omega
      have i2 : (j : Int) < 7 := by omega
      clear ENT hV
      have RT := fun (W : World) (l : List Hp) (E : Env w W l) (M R : Int) (hM : remMo (erRows n) os ns = M) (hR : remRa (erRows n) os ns = R) (s1 : (Hp.box w.heap.size [.int .i64 1, .int .i64 1, .int .i64 n] 40).sub W) (s2 : (Hp.box (w.heap.size + 1) [.int .i64 1, .int .i64 2, .int .i64 n] 40).sub W) (s3 : kA.sub W) (s4 : kB.sub W) =>
        Rem.temp E (Sl.litTri (xs := [⟨1, 1, n⟩]) (Hp.one_self w.heap.size _) rfl (by unfold maxLen; simp)) s1 (Sl.litTri (xs := [⟨1, 2, n⟩]) (Hp.one_self (w.heap.size + 1) _) rfl (by unfold maxLen; simp)) s2 sa s3 sb s4 (by simp) (by simp) 1 1 _ _ rfl rfl rfl rfl HF.out hM hR hE
      have HE2 := ne_chg ⟨0, 0⟩ ⟨0, 0⟩
      rw [neB_f rfl] at HE2
      dsimp only at HE2
      rcases h01 with rfl | rfl
      · have EX := E.alloc (.cells #[.slice A os.length na, .slice B ns.length nb, .int .i64 0] 49)
        have RT2 := fun (W : World) (l : List Hp) (E : Env w W l) => RT W l E _ _ rfl rfl
        generalize remMo (erRows n) os ns = M at *
        generalize remRa (erRows n) os ns = R at *
        clear RT hE
        go_wp2_with fail
        refine (RT2 _ _ EX (EX.sub 0 rfl) (EX.sub 1 rfl) (ka.of_below ((Below.refl _ _).alloc (Nat.le_refl _) _)) (kb.of_below ((Below.refl _ _).alloc (Nat.le_refl _) _))).mono ?_
        rintro e w4 ⟨rfl, E4⟩
        have k2 := E4.cell 15 rfl 2 rfl
        have k2a := fun o => (cell_alloc (o := o) (World.block_lt_of_cell? _ _ k2)).trans k2
        have E5 := (E4.alloc' (.cells #[.int .i64 M, .int .i64 R] 52)).drop 15
        simp at E5
        go_wp2
        go_roundw
        case rel => exact ⟨j + 1, by omega, by go_num, E5⟩
        case measure => simp [intOf]; omega
      · have EX := E.alloc (.cells #[.slice A os.length na, .slice B ns.length nb, .int .i64 1] 49)
        have hMR := erMo hE (by decide)
        have RT2 := fun (W : World) (l : List Hp) (E : Env w W l) => RT W l E _ _ hMR.1 hMR.2
        clear hMR
        clear RT hE
        go_wp2_with fail
        refine (RT2 _ _ EX (EX.sub 0 rfl) (EX.sub 1 rfl) (ka.of_below ((Below.refl _ _).alloc (Nat.le_refl _) _)) (kb.of_below ((Below.refl _ _).alloc (Nat.le_refl _) _))).mono ?_
        rintro e w4 ⟨rfl, E4⟩
        have k2 := E4.cell 15 rfl 2 rfl
        have k2a := fun o => (cell_alloc (o := o) (World.block_lt_of_cell? _ _ k2)).trans k2
        have E5 := (E4.alloc' (.cells #[.int .i64 0, .int .i64 0] 52)).drop 15
        simp at E5
        go_wp2
        go_roundw
        case rel => exact ⟨j + 1, by omega, by go_num, E5⟩
        case measure => simp [intOf]; omega
    · obtain rfl : j = 7 := by omega
      have EY := (((E.alloc (.cells #[.int .i64 1, .int .i64 1, .int .i64 100000000000] 40)).alloc (.cells #[.int .i64 1, .int .i64 1, .int .i64 (-100000000000)] 40)).alloc (.cells #[.int .i64 1000000] 3)).alloc (.cells #[.int .i64 1000000] 3)
      simp at EY
      have HG : Hid (fwd [⟨1, 1, 100000000000⟩] [⟨1, 1, -100000000000⟩] = [⟨1, 1, 100000000000, -200000000000, -100000000000⟩]) := by unfold Hid; simp [fwd, fwdRaw, fO, fC, ups, setO, setC, fM, isort, put, wkey, ordPair, wrap64]
      have HE6 : Hid (remE [⟨1, 1, 100000000000, -200000000000, -100000000000⟩] [1000000] [1000000] = 6) := by unfold Hid; decide
      have HMR := Lib.hid (erMo HE6.out (by decide))
      have HE3 := eq_chg ⟨0, 0⟩ ⟨0, 0⟩
      rw [eqB_t rfl] at HE3
      dsimp only at HE3
      clear ENT HF HN
      go_wp2_with fail
      refine (Rem.temp EY (Sl.litTri (xs := [⟨1, 1, 100000000000⟩]) (Hp.one_self _ _) rfl (by unfold maxLen; simp)) (EY.sub 15 rfl) (Sl.litTri (xs := [⟨1, 1, -100000000000⟩]) (Hp.one_self _ _) rfl (by unfold maxLen; simp)) (EY.sub 16 rfl) (Sl.litInt (xs := [1000000]) (Hp.one_self _ _) rfl (by unfold maxLen; simp)) (EY.sub 17 rfl) (Sl.litInt (xs := [1000000]) (Hp.one_self _ _) rfl (by unfold maxLen; simp)) (EY.sub 18 rfl) (by simp) (by simp) 1 1 1 1 rfl rfl rfl rfl HG.out HMR.out.1 HMR.out.2 HE6.out).mono ?_
      rintro e w5 ⟨rfl, E5⟩
      have E6 := E5.alloc' (.cells #[.int .i64 0, .int .i64 0] 52)
      go_wp2_with fail
      refine (wakes17 _).mono ?_
      rintro e w20 ⟨rfl, b20⟩
      go_wp2
      go_ret
      exact ⟨rfl, E6.low.trans (b20.mono E6.low.size)⟩
end Go.Proofs.Ythcapomobidnbaa
end
namespace Go.Proofs.Ythcapomobidnbaa.remeasureErrors
open Go.ChangeShapes Go.WideShapes Go.ChangeAt Go.RowKit Go.Sl
set_option linter.unusedVariables false
set_option maxRecDepth 100000
theorem lifted (os : Os) (started : os.Started) (H : Type) (enc : TypeId × Value → H) :
    ReturnsInHanded {} Try.checked os 7 .any (Rows.remeasureErrorsSpec.pre6 enc Try.prog Try.f7 Rows.remeasureErrorsRow.domain false) (Rows.remeasureErrorsSpec.post enc Try.prog Try.f7 false true false false) := by
  refine returnsInHanded_of_change_sized (C := Try.checked) Lift.own started (by kernel_rfl) Try.func7
    (ChangeSpec.witness6 (enc := enc) (C := Try.checked) false ⟨#[], #[.int .i64 0], []⟩ 8 (by kernel_rfl) (by kernel_rfl) (by kernel_rfl) (by kernel_rfl)) ?_
  intro W base args ds gs before hval0 hW hcnd hsz0 _
  have hval : ∀ (j : Nat) t v, Try.f7.params[j]? = some t → args[j]? = some v → Value.okWide Try.prog W .any base t v := hval0
  have hW' := hW
  obtain ⟨p, q, hA0, hV, rfl, hfz, hnd⟩ := hW
  have hA : DataW.TrodAll enc Try.prog W 0 (fun _ => true) true Try.f7.params.toList args.toList ds p := hA0
  rw [Try.params7] at hA hval
  obtain ⟨v0, vs0, d0, ds0, p0, q0, hargs, rfl, rfl, h0, r0⟩ := trodAll_cons hA
  obtain ⟨rfl, rfl, rfl⟩ := trodAll_nil r0
  obtain rfl : args = #[v0] := by cases args; simp_all
  obtain ⟨rfl, rfl⟩ := trodVars_none hV
  obtain ⟨a0, rfl, rfl, rfl, x0⟩ := open_int Try.underlying3 (hval 0 3 v0 rfl rfl) h0
  have w0 := I64.of_wf x0
  clear hA0 hval0 hsz0
  refine (remeasureErrors_calls a0 W).mono fun e W' ⟨he, bel⟩ => ?_
  subst he
  exact ⟨_, rfl, _, _, _, [], _, [], hW', trodAll_mk1 (shut_bool Try.underlying4 _), (trodAll_cons_mk (shut_int Try.underlying3 x0) trodAll_mk0), rfl, bel.frame _, fun h => by cases h⟩
theorem over : Rows.remeasureErrorsRow.holds Try.pinned (OpenSpec.ofChange Rows.remeasureErrorsSpec) :=
  OpenClaim.holds_of_wide 7 Try.f7 rfl rfl rfl rfl rfl rfl rfl ⟨rfl, rfl, rfl, rfl, rfl⟩ rfl rfl rfl rfl rfl (by kernel_rfl) Try.func7 (by kernel_rfl)
    (of_decide_eq_true (by kernel_rfl)) (by unfold Func.isWrapper; first | (rw [if_pos (by decide +kernel)]; kernel_rfl) | (rw [if_neg (by decide +kernel)]; exact ⟨rfl, rfl⟩))
    (fun os started H enc _ => lifted os started H enc)
end Go.Proofs.Ythcapomobidnbaa.remeasureErrors
namespace Go.Proofs.Ythcapomobidnbaa
theorem remeasureErrors_holds : Rows.RemeasureErrorsSaid := remeasureErrors.over
#print axioms remeasureErrors_holds
end Go.Proofs.Ythcapomobidnbaa
