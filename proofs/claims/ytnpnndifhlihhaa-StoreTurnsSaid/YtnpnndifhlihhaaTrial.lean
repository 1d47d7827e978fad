/- The walk of store.Trial. -/
import Derived.Test.YtnpnndifhlihhaaBalance
namespace Go.Sl
/-- Accounts whose sums are not 0, of the first n. -/
def trialTo (f : Int → Int) : Nat → List SItem
  | 0 => []
  | n + 1 => trialTo f n ++ if f (n + 1) = 0 then [] else [⟨n + 1, f (n + 1)⟩]
theorem trialTo_len (f : Int → Int) : ∀ n, (trialTo f n).length ≤ n
  | 0 => by simp [trialTo]
  | n + 1 => by
    have := trialTo_len f n
    simp only [trialTo, List.length_append]
    split <;> simp <;> omega
theorem trialTo_no {f : Int → Int} {n : Nat} (h : f (n + 1) = 0) : trialTo f (n + 1) = trialTo f n := by simp [trialTo, h]
theorem trialTo_yes {f : Int → Int} {n : Nat} (h : f (n + 1) ≠ 0) : trialTo f (n + 1) = trialTo f n ++ [⟨n + 1, f (n + 1)⟩] := by simp [trialTo, h]
theorem mergeTo_trial (xs : List SItem) : ∀ n, mergeTo xs n = trialTo (fun a => accSum a xs) n
  | 0 => rfl
  | n + 1 => by simp only [mergeTo, trialTo, mergeTo_trial xs n]
def trial (js : List SJ) (ent : ByteArray) (upto : Int) : List SItem := trialTo (fun a => balance js ent a upto) 7
end Go.Sl
namespace Go.Proofs.Ytnpnndifhlihhaa
open Go.RowKit Go.Sl
set_option maxHeartbeats 1000000
set_option maxRecDepth 100000
theorem trial_calls (p : Nat) (A : Option Addr) (ca : Nat) (js : List SJ) (ent : ByteArray) (upto : Int) (h : Hp) (w : World) (hs : h.sub w) (hc : w.cell? ⟨p, 0, none⟩ = some (.slice A js.length ca)) (sx : Sl kJ h A ca js) (hl : js.length ≤ 1000) :
    Calls Try.prog 43 #[.pointer (some ⟨p, 0, none⟩), .string ent, .int .i64 upto] w fun e w' => ∃ C cap h', e = .returned (.slice C (trial js ent upto).length cap) ∧ Ow kItem h' C cap (trial js ent upto) ∧ Upd Hp.none h' w w' := by
  obtain ⟨i0, hi, hz0, hz1, hz2⟩ := info_parts Try.infoLine
  have hp := World.block_lt_of_cell? w _ hc
  have BC := fun (a : Int) (W : World) (hW : Below w.heap.size w W) => balance_calls p A ca js ent a upto h W (hs.of_below hW) ((hW.cell hp).trans hc) sx hl
  obtain ⟨F, hF⟩ : ∃ F : Int → Int, F = fun a => balance js ent a upto := ⟨_, rfl⟩
  have BC' : ∀ (a : Int) (W : World), Below w.heap.size w W → Calls Try.prog 42 #[.pointer (some ⟨p, 0, none⟩), .string ent, .int .i64 a, .int .i64 upto] W fun e w' => e = .returned (.int .i64 (F a)) ∧ Below W.heap.size W w' := fun a W hW => by
    rw [hF]; exact BC a W hW
  have HF : Hid (trial js ent upto = trialTo F 7) := by unfold Hid trial; rw [hF]
  clear BC hF
  go_enter Try.func43, Try.ntmps43
  go_wp2_with fail
  refine (accounts_calls _).mono ?_
  rintro e w2 ⟨D, dcap, hd, rfl, od, u2⟩
  go_wp2
  go_loopw [7, 13] (fun v i wr => ∃ (j cap n : Nat) (C : Option Addr) (h' : Hp), j ≤ 7 ∧ i = .int .i64 j ∧ v = .slice C n cap ∧ Hid (n = (trialTo F j).length) ∧ Hid (Ow kItem h' C cap (trialTo F j)) ∧ Hid (h'.apart hd) ∧ hd.sub wr ∧ Upd Hp.none h' w wr) (fun _ i _ => 7 - (intOf i).toNat)
  case atStart => exact ⟨0, 0, 0, none, Hp.none, by omega, rfl, rfl, rfl, Ow.none _ _, fun _ e => absurd rfl e, u2.sub, Upd.of_below u2.below⟩
  case round =>
    obtain ⟨j, cap, n, C, h', hj, rfl, rfl, hn, ho, ha, sd, hu⟩ := hrel
    by_cases hlt : j < 7
    · have hx : Hid (([1, 2, 3, 4, 5, 6, 7] : List Int)[j]? = some ((j : Int) + 1)) := acct_get hlt
      obtain ⟨b1', o1, e1, c1⟩ := od.sl.int sd hx
      subst e1
      have i1 : (0 : Int) ≤ (j : Int) := by omega
      have i2 : (j : Int) < 7 := by omega
      have hlen := trialTo_len F j
      have hn2 : n ≤ 7 := by rw [hn.out]; omega
      have D := BC' ((j : Int) + 1) wr hu.below
      generalize hg : F ((j : Int) + 1) = s at *
      by_cases h0 : s = 0
      · have hb : (s != 0) = false := by simpa using h0
        have HT : Hid (trialTo F (j + 1) = trialTo F j) := trialTo_no (by rw [hg]; exact h0)
        clear h0 hg
        go_wp2_with (go_at_call 42; refine D.mono ?_; rintro e w3 ⟨rfl, b3⟩)
        go_roundw
        case rel => exact ⟨j + 1, cap, n, C, h', by omega, by go_num, rfl, by rw [HT.out]; exact hn, by rw [HT.out]; exact ho, ha, sd.of_below b3, hu.after b3⟩
        case measure => simp [intOf]; omega
      · have hb : (s != 0) = true := by simpa using h0
        have HT : Hid (trialTo F (j + 1) = trialTo F j ++ [⟨(j : Int) + 1, s⟩]) := by unfold Hid; rw [← hg]; exact trialTo_yes (by rw [hg]; exact h0)
        clear h0 hg
        go_wp2_with (first
          | (go_at_call 42; refine D.mono ?_; rintro e w3 ⟨rfl, b3⟩)
          | (at_builtin; refine wpList_append (k := kItem) (h := h') (hx := Hp.none) (A := C) (cap := cap) (B := some ⟨w3.heap.size, 0, none⟩) (xs := trialTo F j) (ys := [⟨(j : Int) + 1, s⟩]) (by rfl) (.tmp 24) (.tmp 28) 36 (by rfl) 39 i0 (.agg #[.int .i64 0, .int .i64 0]) Try.underlying36 hi hz0 hz1 (by rfl) 16 hz2 n 1 1 hn.out.symm rfl (by rfl) (by rfl) ho.out ((hu.sub.of_below b3).of_below (by repeat (first | exact Below.refl _ _ | apply Below.drew | refine Below.alloc ?_ (by simp) _))) (Src.new (heap_new_at (by simp)) rfl) (Hp.none_sub _) (Hp.apart_none _) (by unfold maxLen; omega) (by omega) ?_; intro C' cap' w4 h1 ho1 hu1))
        go_roundw
        case rel =>
          have bb : Below w3.heap.size w3 (w3.alloc (.cells #[.int .i64 ((j : Int) + 1), .int .i64 s] 39)) := (Below.refl _ _).alloc (Nat.le_refl _) _
          have hh : h'.apart hd := ha.out
          exact ⟨j + 1, cap', n + 1, C', h1, by omega, by go_num, rfl, by rw [HT.out]; unfold Hid; rw [List.length_append, ← hn.out]; rfl, by rw [HT.out]; exact ho1, hu1.flat.apart hh ((sd.of_below b3).of_below bb), hu1.flat.keeps hh ((sd.of_below b3).of_below bb), (hu.after b3).trans (hu1.flat.before bb)⟩
        case measure => simp [intOf]; omega
    · obtain rfl : j = 7 := by omega
      go_wp2
      go_ret
      exact ⟨C, cap, h', by rw [hn.out, HF.out]; rfl, by rw [HF.out]; exact ho.out, hu⟩
end Go.Proofs.Ytnpnndifhlihhaa
