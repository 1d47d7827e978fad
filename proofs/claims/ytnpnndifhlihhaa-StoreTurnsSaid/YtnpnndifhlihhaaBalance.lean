/- The walk of store.Balance. -/
import Derived.Test.YtnpnndifhlihhaaStoreP
import Derived.Test.YtnpnndifhlihhaaJournal
import Derived.Deep.QuietTactic
import Derived.BigQuiet
namespace Go.Sl
/-- What a journal gives to a balance. -/
def share (ent : ByteArray) (a upto : Int) (x : SJ) : Int := if x.ent.toList = ent.toList ∧ x.period ≤ upto then netF x.lines a else 0
def balance (js : List SJ) (ent : ByteArray) (a upto : Int) : Int := (js.map (share ent a upto)).sum
theorem balance_snoc (js : List SJ) (x : SJ) (ent : ByteArray) (a upto : Int) : balance (js ++ [x]) ent a upto = balance js ent a upto + share ent a upto x := by simp [balance]
theorem netF_bd (xs : List SItem) (a : Int) : -4000000000000 ≤ netF xs a ∧ netF xs a ≤ 4000000000000 := by
  unfold netF
  split
  · rename_i h
    simp only [fewB, Bool.and_eq_true, decide_eq_true_eq, List.all_eq_true] at h
    have h1 := accSum_bd (b := 100000000000) (by omega) a xs (fun x hx => by have := h.2 x hx; simpa [money] using this)
    omega
  · omega
theorem share_bd (ent : ByteArray) (a upto : Int) (x : SJ) : -4000000000000 ≤ share ent a upto x ∧ share ent a upto x ≤ 4000000000000 := by
  unfold share
  split
  · exact netF_bd _ _
  · omega
theorem balance_bd (ent : ByteArray) (a upto : Int) : ∀ js : List SJ, -((js.length : Int) * 4000000000000) ≤ balance js ent a upto ∧ balance js ent a upto ≤ (js.length : Int) * 4000000000000
  | [] => by simp [balance]
  | x :: js => by
    have h1 := balance_bd ent a upto js
    have h2 := share_bd ent a upto x
    have e : balance (x :: js) ent a upto = share ent a upto x + balance js ent a upto := by simp [balance]
    rw [e]
    simp only [List.length_cons, Int.natCast_add, Int.add_mul, Int.natCast_one, Int.one_mul]
    omega
end Go.Sl
namespace Go.Proofs.Ytnpnndifhlihhaa
open Go.RowKit Go.Sl
set_option maxHeartbeats 1000000
set_option maxRecDepth 100000
theorem balance_calls (p : Nat) (A : Option Addr) (cap : Nat) (js : List SJ) (ent : ByteArray) (a upto : Int) (h : Hp) (w : World) (hs : h.sub w) (hc : w.cell? ⟨p, 0, none⟩ = some (.slice A js.length cap)) (sx : Sl kJ h A cap js) (hl : js.length ≤ 1000) :
    Calls Try.prog 42 #[.pointer (some ⟨p, 0, none⟩), .string ent, .int .i64 a, .int .i64 upto] w fun e w' => e = .returned (.int .i64 (balance js ent a upto)) ∧ Below w.heap.size w w' := by
  have m1 := sx.small
  go_enter Try.func42, Try.ntmps42
  go_wp2
  go_loopw [9, 17] (fun s i wr => ∃ (j : Nat), j ≤ js.length ∧ i = .int .i64 j ∧ s = .int .i64 (balance (js.take j) ent a upto) ∧ Below w.heap.size w wr) (fun _ i _ => js.length - (intOf i).toNat)
  case atStart => exact ⟨0, by omega, rfl, rfl, Below.refl _ _⟩
  case round =>
    obtain ⟨j, hj, rfl, rfl, hb⟩ := hrel
    have q := balance_bd ent a upto (js.take j)
    rw [List.length_take] at q
    obtain ⟨q1, q2⟩ : -4000000000000000 ≤ balance (js.take j) ent a upto ∧ balance (js.take j) ent a upto ≤ 4000000000000000 := by omega
    clear q
    by_cases hlt : j < js.length
    · obtain ⟨x, hx⟩ := some_of_lt hlt
      obtain ⟨b1, o1, B, cb, rfl, sl, c1, c2, c3, c4, c5, c6⟩ := sx.jou (hs.of_below hb) hx
      have i1 : (0 : Int) ≤ (j : Int) := by omega
      have i2 : (j : Int) < (js.length : Int) := by omega
      have HT : Hid (balance (js.take (j + 1)) ent a upto = balance (js.take j) ent a upto + share ent a upto x) := by unfold Hid; rw [take_next hx, balance_snoc]
      have N := fun W (hW : Below wr.heap.size wr W) => net_calls B cb x.lines a h W ((hs.of_below hb).of_below hW) sl
      obtain ⟨q3, q4⟩ := netF_bd x.lines a
      by_cases he : x.ent.toList = ent.toList
      · by_cases hp : x.period ≤ upto
        · have HS : Hid (share ent a upto x = netF x.lines a) := by unfold Hid share; rw [if_pos ⟨he, hp⟩]
          have hp' : decide (x.period ≤ upto) = true := by simpa using hp
          have he' : decide (x.ent.toList = ent.toList) = true := by simpa using he
          go_wp2_with (go_at_call 26; refine (N _ ((Below.refl _ _).alloc (Nat.le_refl _) _)).mono ?_; rintro e w1 ⟨rfl, y1⟩)
          go_roundw
          case rel => exact ⟨j + 1, by omega, by go_num, by rw [HT.out, HS.out], (hb.alloc hb.size _).trans (y1.mono (by simp; exact Nat.le_trans hb.size (Nat.le_succ _)))⟩
          case measure => simp [intOf]; omega
        · have HS : Hid (share ent a upto x = 0) := by unfold Hid share; rw [if_neg (fun h => hp h.2)]
          have hp' : decide (x.period ≤ upto) = false := by simpa using hp
          have he' : decide (x.ent.toList = ent.toList) = true := by simpa using he
          go_wp2
          go_roundw
          case rel => exact ⟨j + 1, by omega, by go_num, by rw [HT.out, HS.out, Int.add_zero], hb.alloc hb.size _⟩
          case measure => simp [intOf]; omega
      · have HS : Hid (share ent a upto x = 0) := by unfold Hid share; rw [if_neg (fun h => he h.1)]
        have he' : decide (x.ent.toList = ent.toList) = false := by simpa using he
        go_wp2
        go_roundw
        case rel => exact ⟨j + 1, by omega, by go_num, by rw [HT.out, HS.out, Int.add_zero], hb.alloc hb.size _⟩
        case measure => simp [intOf]; omega
    · obtain rfl : j = js.length := by omega
      rw [List.take_length]
      go_wp2
      go_ret
      exact ⟨rfl, hb⟩
end Go.Proofs.Ytnpnndifhlihhaa
