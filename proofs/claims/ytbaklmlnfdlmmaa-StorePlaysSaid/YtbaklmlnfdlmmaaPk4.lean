/- Walks and plain facts that the laws of this seat share, part 4: contracts of functions, each said at its theorem. -/
import Derived.Test.YtbaklmlnfdlmmaaPk3
import Derived.Deep.QuietTactic
import Derived.BigQuiet
import Derived.Deep.RegionLaw
import Derived.Deep.Draws
set_option linter.all false
section
/- The walk of store.Balance. -/
namespace Go.Sl
/-- What a journal gives to a balance. -/
def share (ent : ByteArray) (a upto : Int) (x : SJ) : Int := if x.ent.toList = ent.toList ∧ x.period ≤ upto then netF x.lines a else 0
def balance (js : List SJ) (ent : ByteArray) (a upto : Int) : Int := (js.map (share ent a upto)).sum
theorem balance_snoc (js : List SJ) (x : SJ) (ent : ByteArray) (a upto : Int) : balance (js ++ [x]) ent a upto = balance js ent a upto + share ent a upto x := by simp [balance]
theorem netF_bd (xs : List SItem) (a : Int) : -4000000000000 ≤ netF xs a ∧ netF xs a ≤ 4000000000000 := by
  unfold netF
  split
  · rename_i h
    simp only [fewB, Bool.and_eq_true, decide_eq_true_eq, List.all_eq_true] at h
    have h1 := accSum_bd (b := 100000000000) (by omega) a xs (fun x hx => by have := h.2 x hx; simpa [money] using this)
    omega
  · omega
theorem share_bd (ent : ByteArray) (a upto : Int) (x : SJ) : -4000000000000 ≤ share ent a upto x ∧ share ent a upto x ≤ 4000000000000 := by
  unfold share
  split
  · exact netF_bd _ _
  · omega
theorem balance_bd (ent : ByteArray) (a upto : Int) : ∀ js : List SJ, -((js.length : Int) * 4000000000000) ≤ balance js ent a upto ∧ balance js ent a upto ≤ (js.length : Int) * 4000000000000
  | [] => by simp [balance]
  | x :: js => by
    have h1 := balance_bd ent a upto js
    have h2 := share_bd ent a upto x
    have e : balance (x :: js) ent a upto = share ent a upto x + balance js ent a upto := by simp [balance]
    rw [e]
    simp only [List.length_cons, Int.natCast_add, Int.add_mul, Int.natCast_one, Int.one_mul]
    omega
end Go.Sl
namespace Go.Proofs.Ytbaklmlnfdlmmaa
open Go.RowKit Go.Sl
set_option maxHeartbeats 1000000
set_option maxRecDepth 100000
theorem balance_calls (p : Nat) (A : Option Addr) (cap : Nat) (js : List SJ) (ent : ByteArray) (a upto : Int) (h : Hp) (w : World) (hs : h.sub w) (hc : w.cell? ⟨p, 0, none⟩ = some (.slice A js.length cap)) (sx : Sl kJ h A cap js) (hl : js.length ≤ 1000) :
    Calls Try.prog 16 #[.pointer (some ⟨p, 0, none⟩), .string ent, .int .i64 a, .int .i64 upto] w fun e w' => e = .returned (.int .i64 (balance js ent a upto)) ∧ Below w.heap.size w w' := by
  have m1 := sx.small
  go_enter Try.func16, Try.ntmps16
  go_wp2
  go_loopw [9, 17] (fun s i wr => ∃ (j : Nat), j ≤ js.length ∧ i = .int .i64 j ∧ s = .int .i64 (balance (js.take j) ent a upto) ∧ Below w.heap.size w wr) (fun _ i _ => js.length - (intOf i).toNat)
  case atStart => exact ⟨0, by omega, rfl, rfl, Below.refl _ _⟩
  case round =>
    obtain ⟨j, hj, rfl, rfl, hb⟩ := hrel
    have q := balance_bd ent a upto (js.take j)
    rw [List.length_take] at q
    obtain ⟨q1, q2⟩ : -4000000000000000 ≤ balance (js.take j) ent a upto ∧ balance (js.take j) ent a upto ≤ 4000000000000000 := by omega
    clear q
    by_cases hlt : j < js.length
    · obtain ⟨x, hx⟩ := some_of_lt hlt
      obtain ⟨b1, o1, B, cb, rfl, sl, c1, c2, c3, c4, c5, c6⟩ := sx.jou (hs.of_below hb) hx
      have i1 : (0 : Int) ≤ (j : Int) := by omega
      have i2 : (j : Int) < (js.length : Int) := by omega
      have HT : Hid (balance (js.take (j + 1)) ent a upto = balance (js.take j) ent a upto + share ent a upto x) := by unfold Hid; rw [take_next hx, balance_snoc]
      have N := fun W (hW : Below wr.heap.size wr W) => net_calls B cb x.lines a h W ((hs.of_below hb).of_below hW) sl
      obtain ⟨q3, q4⟩ := netF_bd x.lines a
      by_cases he : x.ent.toList = ent.toList
      · by_cases hp : x.period ≤ upto
        · have HS : Hid (share ent a upto x = netF x.lines a) := by unfold Hid share; rw [if_pos ⟨he, hp⟩]
          have hp' : decide (x.period ≤ upto) = true := by simpa using hp
          have he' : decide (x.ent.toList = ent.toList) = true := by simpa using he
          go_wp2_with (go_at_call 32; refine (N _ ((Below.refl _ _).alloc (Nat.le_refl _) _)).mono ?_; rintro e w1 ⟨rfl, y1⟩)
          go_roundw
          case rel => exact ⟨j + 1, by omega, by go_num, by rw [HT.out, HS.out], (hb.alloc hb.size _).trans (y1.mono (by simp; exact Nat.le_trans hb.size (Nat.le_succ _)))⟩
          case measure => simp [intOf]; omega
        · have HS : Hid (share ent a upto x = 0) := by unfold Hid share; rw [if_neg (fun h => hp h.2)]
          have hp' : decide (x.period ≤ upto) = false := by simpa using hp
          have he' : decide (x.ent.toList = ent.toList) = true := by simpa using he
          go_wp2
          go_roundw
          case rel => exact ⟨j + 1, by omega, by go_num, by rw [HT.out, HS.out, Int.add_zero], hb.alloc hb.size _⟩
          case measure => simp [intOf]; omega
      · have HS : Hid (share ent a upto x = 0) := by unfold Hid share; rw [if_neg (fun h => he h.1)]
        have he' : decide (x.ent.toList = ent.toList) = false := by simpa using he
        go_wp2
        go_roundw
        case rel => exact ⟨j + 1, by omega, by go_num, by rw [HT.out, HS.out, Int.add_zero], hb.alloc hb.size _⟩
        case measure => simp [intOf]; omega
    · obtain rfl : j = js.length := by omega
      rw [List.take_length]
      go_wp2
      go_ret
      exact ⟨rfl, hb⟩
end Go.Proofs.Ytbaklmlnfdlmmaa
end
section
/- The walk of store.Post. -/
namespace Go.Sl
def argsBad (ent : ByteArray) (p kind of : Int) : Bool := ent.toList.isEmpty || (!decide (0 ≤ p ∧ p ≤ 399) || (!decide (kind = 1 ∨ kind = 2) || decide (kind = 1 ∧ of ≠ 0)))
/-- Is a balance with such a line too great? -/
def overX (js : List SJ) (ent : ByteArray) (x : SItem) : Bool := !money (balance js ent x.kind 399 + x.amt)
def postE (js : List SJ) (ent : ByteArray) (p kind of : Int) (xs : List SItem) : Int :=
  if argsBad ent p kind of = true then 1
  else if linesE js ent p kind of xs ≠ 0 then linesE js ent p kind of xs
  else if 200 ≤ js.length then 5
  else if xs.any (overX js ent) = true then 6 else 0
def postSeq (js : List SJ) (ent : ByteArray) (p kind of : Int) (xs : List SItem) : Int := if postE js ent p kind of xs = 0 then js.length + 1 else 0
def post (js : List SJ) (ent : ByteArray) (p kind of : Int) (xs : List SItem) : List SJ := if postE js ent p kind of xs = 0 then js ++ [⟨js.length + 1, ent, p, kind, of, xs⟩] else js
end Go.Sl
namespace Go.Proofs.Ytbaklmlnfdlmmaa
open Go.RowKit Go.Sl
set_option maxHeartbeats 1000000
set_option maxRecDepth 100000
theorem linesE_zero {js : List SJ} {ent : ByteArray} {p kind of : Int} {xs : List SItem} (h : linesE js ent p kind of xs = 0) : checkE xs = 0 := by
  unfold linesE at h
  split at h
  · split at h
    · contradiction
    · split at h
      · contradiction
      · simp_all
  · exact h
theorem check_amts {xs : List SItem} (h : checkE xs = 0) : ∀ x ∈ xs, -100000000000 ≤ x.amt ∧ x.amt ≤ 100000000000 := fun x hx => by
  unfold checkE at h
  split at h
  · rename_i hb
    simp only [checkB, Bool.and_eq_true] at hb
    have := lines_money hb.1.2 x hx
    simpa [money] using this
  · cases h
theorem check_len {xs : List SItem} (h : checkE xs = 0) : xs.length ≤ 20 := by
  unfold checkE at h
  split at h
  · rename_i hb
    simp only [checkB, Bool.and_eq_true, decide_eq_true_eq] at hb
    exact hb.1.1
  · cases h
theorem perRight_calls (p : Int) (w : World) : Calls Try.prog 21 #[.int .i64 p] w fun e w' => e = .returned (.bool (decide (0 ≤ p ∧ p ≤ 399))) ∧ w = w' := by
  go_enter Try.func21, Try.ntmps21
  go_wp2
  all_goals
    go_ret
    exact ⟨by simp; omega, rfl⟩
/-- What Post returns. -/
def PostAns (b : Nat) (js : List SJ) (ent : ByteArray) (p kind of : Int) (xs : List SItem) (h : Hp) (w : World) (e : Ending) (w' : World) : Prop :=
  ∃ h', e = .returned (.tuple #[.int .i64 (postSeq js ent p kind of xs), .int .i64 (postE js ent p kind of xs)]) ∧ Pt kSt 52 h' b (post js ent p kind of xs) ∧ Upd h h' w w'
theorem PostAns.no {b : Nat} {js : List SJ} {ent : ByteArray} {p kind of : Int} {xs : List SItem} {h : Hp} {w w' : World} {E : Int} (hE : postE js ent p kind of xs = E) (h0 : E ≠ 0) (hp : Pt kSt 52 h b js) (hs : h.sub w) (hb : Below w.heap.size w w') :
    PostAns b js ent p kind of xs h w (.returned (.tuple #[.int .i64 0, .int .i64 E])) w' :=
  ⟨h, by unfold postSeq; rw [hE, if_neg h0], by unfold post; rw [hE, if_neg h0]; exact hp, ⟨hb.os, hb.tape, hb.output, hb.size, fun q hq _ => hb.block q hq, hs.of_below hb, fun _ hq => .inl hq⟩⟩
theorem post_calls (b : Nat) (js : List SJ) (ent : ByteArray) (per kind of : Int) (h : Hp) (w : World) (hs : h.sub w) (hp : Pt kSt 52 h b js) (hl : js.length ≤ 1000) (hll : ∀ x ∈ js, x.lines.length ≤ 1000000)
    (D : Option Addr) (cd : Nat) (xs : List SItem) (k : Hp) (ks : k.sub w) (sy : Sl kItem k D cd xs) :
    Calls Try.prog 9 #[.pointer (some ⟨b, 0, none⟩), .string ent, .int .i64 per, .int .i64 kind, .int .i64 of, .slice D xs.length cd] w (PostAns b js ent per kind of xs h w) := by
  obtain ⟨cs, hb, A, ca, rfl, ow⟩ := hp
  have hp : Pt kSt 52 h b js := ⟨_, hb, A, ca, rfl, ow⟩
  have hbw := hs b _ hb
  have hd := hs.del b
  have hc : w.cell? ⟨b, 0, none⟩ = some (.slice A js.length ca) := by rw [cell_of_row w b 0 _ _ _ hbw]; rfl
  have LC := fun (W : World) (hW : Below w.heap.size w W) => lines_calls b A ca js ent per kind of (h.del b) W (hd.of_below hW) ((hW.cell (World.block_lt_of_cell? w _ hc)).trans hc) ow.sl hll D cd xs k (ks.of_below hW) sy
  cases hE0 : ent.toList.isEmpty with
  | true =>
    have HE : Hid (postE js ent per kind of xs = 1) := by unfold Hid postE; rw [if_pos (by simp [argsBad, hE0])]
    have hE1 : ent.toList = [] := by simpa using hE0
    clear LC
    go_enter Try.func9, Try.ntmps9
    go_wp2
    go_ret2
    exact .no HE.out (by decide) hp hs (Below.refl _ _)
  | false =>
  cases hP0 : decide (0 ≤ per ∧ per ≤ 399) with
  | false =>
    have HE : Hid (postE js ent per kind of xs = 1) := by unfold Hid postE; rw [if_pos (by simp only [argsBad, hE0, hP0]; rfl)]
    have PC := fun W => perRight_calls per W
    rw [hP0] at PC
    clear LC hP0
    go_enter Try.func9, Try.ntmps9
    go_wp2_with (go_at_call 21; refine (PC _).mono ?_; rintro e w' ⟨rfl, rfl⟩)
    go_ret2
    exact .no HE.out (by decide) hp hs (Below.refl _ _)
  | true =>
  have PC := fun W => perRight_calls per W
  rw [hP0] at PC
  have hk : (kind = 1 ∧ of ≠ 0 ∨ kind ≠ 1 ∧ kind ≠ 2) ∨ (kind = 1 ∧ of = 0 ∨ kind = 2) := by omega
  rcases hk with hk | hk
  · have HE : Hid (postE js ent per kind of xs = 1) := by
      unfold Hid postE; rw [if_pos]
      simp only [argsBad, hE0, hP0]
      rcases hk with ⟨h1, h2⟩ | ⟨h1, h2⟩ <;> simp [h1, h2]
    clear LC hP0
    rcases hk with ⟨rfl, h2⟩ | ⟨h1, h2⟩
    · have h2b : (of != 0) = true := by simpa using h2
      clear h2
      go_enter Try.func9, Try.ntmps9
      go_wp2_with (go_at_call 21; refine (PC _).mono ?_; rintro e w' ⟨rfl, rfl⟩)
      go_ret2
      exact .no HE.out (by decide) hp hs (Below.refl _ _)
    · have h1b : (kind != 1) = true := by simpa using h1
      have h2b : (kind != 2) = true := by simpa using h2
      clear h1 h2
      go_enter Try.func9, Try.ntmps9
      go_wp2_with (go_at_call 21; refine (PC _).mono ?_; rintro e w' ⟨rfl, rfl⟩)
      go_ret2
      exact .no HE.out (by decide) hp hs (Below.refl _ _)
  have hA : argsBad ent per kind of = false := by
    simp only [argsBad, hE0, hP0]
    rcases hk with ⟨h1, h2⟩ | h1 <;> simp [*]
  have HP : Hid (postE js ent per kind of xs = if linesE js ent per kind of xs ≠ 0 then linesE js ent per kind of xs else if 200 ≤ js.length then 5 else if xs.any (overX js ent) = true then 6 else 0) := by
    unfold Hid postE; rw [if_neg (by rw [hA]; decide)]
  have GO : (kind = 1 ∧ of = 0 ∨ kind = 2) → True := fun _ => trivial
  clear hA hP0 GO
  by_cases hL : linesE js ent per kind of xs = 0
  · have hamt := Lib.hid (check_amts (linesE_zero hL))
    have hxlen := check_len (linesE_zero hL)
    rw [hL] at LC
    have HP2 : Hid (postE js ent per kind of xs = if 200 ≤ js.length then 5 else if xs.any (overX js ent) = true then 6 else 0) := by unfold Hid; rw [HP.out, hL]; rfl
    clear HP hL
    by_cases h2 : 200 ≤ js.length
    · have HE : Hid (postE js ent per kind of xs = 5) := by unfold Hid; rw [HP2.out, if_pos h2]
      clear HP2
      rcases hk with ⟨rfl, rfl⟩ | rfl
      all_goals
        go_enter Try.func9, Try.ntmps9
        go_wp2_with (go_at_call 21; refine (PC _).mono ?_; rintro e w' ⟨rfl, rfl⟩)
        refine (LC _ (Below.refl _ _)).mono ?_
        rintro e w1 ⟨rfl, b1⟩
        have hc1 := (b1.cell (p := ⟨b, 0, none⟩) (World.block_lt_of_cell? w _ hc)).trans hc
        go_wp2
        go_ret2
        exact .no HE.out (by decide) hp hs b1
    · have hbx := fun a : Int => balance_bd ent a 399 js
      have hov : Hid (∀ y ∈ xs.take 0, overX js ent y = false) := by unfold Hid; simp
      have h2b : decide (200 ≤ (js.length : Int)) = false := by simp; omega
      have BCr := fun (a : Int) (W : World) (hW : Below w.heap.size w W) => balance_calls b A ca js ent a 399 (h.del b) W (hd.of_below hW) ((hW.cell (World.block_lt_of_cell? w _ hc)).trans hc) ow.sl hl
      have m1 := sy.small
      rcases hk with ⟨rfl, rfl⟩ | rfl
      · go_enter Try.func9, Try.ntmps9
        go_wp2_with (go_at_call 21; refine (PC _).mono ?_; rintro e w' ⟨rfl, rfl⟩)
        refine (LC _ (Below.refl _ _)).mono ?_
        rintro e w1 ⟨rfl, b1⟩
        have hc1 := (b1.cell (p := ⟨b, 0, none⟩) (World.block_lt_of_cell? w _ hc)).trans hc
        go_wp2
        go_loopw [59] (fun i wr => ∃ (j : Nat), j ≤ xs.length ∧ i = .int .i64 j ∧ Hid (∀ y ∈ xs.take j, overX js ent y = false) ∧ Below w.heap.size w wr) (fun i _ => xs.length - (intOf i).toNat)
        case atStart => exact ⟨0, by omega, rfl, hov, b1⟩
        case round =>
          obtain ⟨j, hj, rfl, hn, hbr⟩ := hrel
          have hc2 := (hbr.cell (p := ⟨b, 0, none⟩) (World.block_lt_of_cell? w _ hc)).trans hc
          have hzr := hbr.size
          by_cases hlt : j < xs.length
          · obtain ⟨x, hx⟩ := some_of_lt hlt
            obtain ⟨b2, o2, rfl, c1, c2⟩ := sy.item (ks.of_below hbr) hx
            have i1 : (0 : Int) ≤ (j : Int) := by omega
            have i2 : (j : Int) < (xs.length : Int) := by omega
            have hX := hamt.out x (List.mem_of_getElem? hx.out)
            have hB := hbx x.kind
            obtain ⟨q1, q2⟩ : -4000000000000000 ≤ balance js ent x.kind 399 ∧ balance js ent x.kind 399 ≤ 4000000000000000 := by omega
            clear hB
            have HO : Hid (overX js ent x = !money (balance js ent x.kind 399 + x.amt)) := rfl
            have BCx := BCr x.kind
            generalize balance js ent x.kind 399 = v at *
            have hwp : IntKind.i64.wrap (v + x.amt) = v + x.amt := by rw [IntKind.wrap_i64]; omega
            cases hm : money (v + x.amt) with
            | true =>
              have HN : Hid (∀ y ∈ xs.take (j + 1), overX js ent y = false) := by
                intro y hy
                rw [take_next hx] at hy
                rcases List.mem_append.1 hy with hy | hy
                · exact hn.out y hy
                · simp at hy; subst hy; rw [HO.out, hm]; rfl
              clear HP2
              go_wp2
              go_region_held3 (fun w' => w'.cell? ⟨wr.heap.size, 0, none⟩ = some (.int .i64 x.kind) ∧ w'.cell? ⟨wr.heap.size, 1, none⟩ = some (.int .i64 x.amt))
                (first | go_keep | (go_split_ands; exact ⟨(b3.cell (by simp)).trans (by simp), (b3.cell (by simp)).trans (by simp)⟩))
                (first
                  | (go_at_call 16; refine (BCx _ (by repeat (first | exact hbr | apply Below.drew | refine Below.alloc ?_ (by first | (simp; done) | (simp; omega) | omega) _))).mono ?_; rintro e w3 ⟨rfl, b3⟩)
                  | (go_at_call 23; refine (money_calls _ _).mono ?_; rintro e w' ⟨rfl, rfl⟩))
              clear hwp
              go_wp2
              go_roundw
              case rel => exact ⟨j + 1, by omega, by go_num, HN, (by repeat (first | exact hbr | apply Below.drew | refine Below.alloc ?_ (by first | (simp; done) | (simp; omega) | omega) _ | refine Below.trans ?_ (b3.mono (by first | (simp; done) | (simp; omega) | omega))))⟩
              case measure => simp [intOf]; omega
            | false =>
              have HE : Hid (postE js ent per 1 0 xs = 6) := by
                unfold Hid
                rw [HP2.out, if_neg h2, if_pos]
                exact List.any_eq_true.2 ⟨x, List.mem_of_getElem? hx.out, by rw [HO.out, hm]; rfl⟩
              clear HP2
              go_wp2
              go_region_held3 (fun w' => w'.cell? ⟨wr.heap.size, 0, none⟩ = some (.int .i64 x.kind) ∧ w'.cell? ⟨wr.heap.size, 1, none⟩ = some (.int .i64 x.amt))
                (first | go_keep | (go_split_ands; exact ⟨(b3.cell (by simp)).trans (by simp), (b3.cell (by simp)).trans (by simp)⟩))
                (first
                  | (go_at_call 16; refine (BCx _ (by repeat (first | exact hbr | apply Below.drew | refine Below.alloc ?_ (by first | (simp; done) | (simp; omega) | omega) _))).mono ?_; rintro e w3 ⟨rfl, b3⟩)
                  | (go_at_call 23; refine (money_calls _ _).mono ?_; rintro e w' ⟨rfl, rfl⟩))
              clear hwp
              go_wp2
              go_ret2
              exact .no HE.out (by decide) hp hs (by repeat (first | exact hbr | apply Below.drew | refine Below.alloc ?_ (by first | (simp; done) | (simp; omega) | omega) _ | refine Below.trans ?_ (b3.mono (by first | (simp; done) | (simp; omega) | omega))))
          · have hany : xs.any (overX js ent) = false := by
              rw [List.any_eq_false]
              intro y hy
              rw [hn.out y (by rw [List.take_of_length_le (by omega)]; exact hy)]; decide
            have HE := Lib.hid (HP2.out.trans (by rw [if_neg h2, hany, if_neg (by decide)]))
            have OC := fun W (hW : Below w.heap.size w W) => own_calls ⟨js.length + 1, ent, per, 1, 0, xs⟩ D cd k W (ks.of_below hW) sy (show xs.length ≤ 1000000 by omega)
            clear HP2 hany
            have j1 : (0 : Int) ≤ (js.length : Int) := by omega
            have j2 : (js.length : Int) < 200 := by omega
            have hf2 : wr.frozen? ⟨b, 0, none⟩ = false := (hbr.frozen (p := ⟨b, 0, none⟩) (World.block_lt_of_cell? w _ hc)).trans (frozen_of_row w b 0 _ _ hbw)
            have hlb := Nat.lt_of_lt_of_le (World.block_lt_of_cell? w _ hc) hzr
            simp only at hlb
            go_wp2
            go_region_law (first
              | (refine step_app1 (hx := h2) (h := h.del b) (xs := js) (A := A) (cap := ca) (y := ⟨js.length + 1, ent, per, 1, 0, xs⟩) Try.underlying26 info_jou (by rfl) (by rfl) rfl js.length 1 (by rfl) (by rfl) rfl ow (hd.of_below (by repeat (first | exact hbr | apply Below.drew | refine Below.alloc ?_ (by first | (simp; done) | (simp; omega) | omega) _ | refine Below.trans ?_ (u2.below.mono (by first | (simp; done) | (simp; omega) | omega))))) (heap_new_at (by simp)) ⟨C2, cap2, rfl, o2⟩ (u2.sub.of_below (by repeat (first | exact Below.refl _ _ | apply Below.drew | refine Below.alloc ?_ (by simp) _))) (u2.apart (fun _ e => absurd rfl e) (hd.of_below (by repeat (first | exact hbr | apply Below.drew | refine Below.alloc ?_ (by first | (simp; done) | (simp; omega) | omega) _)))).symm (by omega) (by omega) ?_; intro C' cap' w3 h3 ho3 hu3; have hcv : w3.cell? ⟨b, 0, none⟩ = _ := hu3.cell ((cell_alloc (by omega)).trans hcw) (by simp [Hp.or, Hp.del_self, h2n.out]); have hfv : w3.frozen? ⟨b, 0, none⟩ = _ := (hu3.frozen (p := ⟨b, 0, none⟩) (by first | (simp; done) | (simp; omega) | omega) (by simp [Hp.or, Hp.del_self, h2n.out])).trans ((frozen_alloc (by omega)).trans hfw))
              | (rw [if_pos (by rfl)]; go_simp; refine (OC _ (by repeat (first | exact hbr | apply Below.drew | refine Below.alloc ?_ (by first | (simp; done) | (simp; omega) | omega) _))).mono ?_; rintro e w2 ⟨C2, cap2, h2, rfl, o2, u2⟩; dsimp only; have hz2 := u2.size; simp at hz2; have hcw : w2.cell? ⟨b, 0, none⟩ = _ := (u2.below.cell (p := ⟨b, 0, none⟩) (by simp; omega)).trans (by simpa using hc2); have hfw : w2.frozen? ⟨b, 0, none⟩ = _ := (u2.below.frozen (p := ⟨b, 0, none⟩) (by simp; omega)).trans (by simpa using hf2); have h2n : Hid (h2 b = none) := u2.new_none (by first | (simp; done) | (simp; omega) | omega); have hlb2 : b < w2.heap.size := Nat.lt_of_lt_of_le hlb hz2; have hca : ∀ o, (w2.alloc o).cell? ⟨b, 0, none⟩ = some (.slice A js.length ca) := fun o => (cell_alloc hlb2).trans hcw))
            all_goals
              go_wp2
            all_goals
              have U : Upd (h.del b) h3 w w3 := (Upd.eat ((u2.before (by repeat (first | exact Below.refl _ _ | apply Below.drew | refine Below.alloc ?_ (by simp) _))).after (by repeat (first | exact Below.refl _ _ | apply Below.drew | refine Below.alloc ?_ (by simp) _))) hu3).before hbr
              obtain ⟨UF, hn3⟩ := Upd.field (v := .slice C' (js.length + 1) cap') 0 hb hs (Hp.le_refl _) U
              clear hu3 u2
              go_ret2
              exact ⟨_, by unfold postSeq; rw [HE]; rfl, ⟨_, Hp.put_self, C', cap', by unfold post; rw [HE, if_pos rfl, List.length_append]; rfl, by rw [Hp.put_del hn3]; unfold post; rw [HE, if_pos rfl]; exact ho3⟩, UF⟩
      · go_enter Try.func9, Try.ntmps9
        go_wp2_with (go_at_call 21; refine (PC _).mono ?_; rintro e w' ⟨rfl, rfl⟩)
        refine (LC _ (Below.refl _ _)).mono ?_
        rintro e w1 ⟨rfl, b1⟩
        have hc1 := (b1.cell (p := ⟨b, 0, none⟩) (World.block_lt_of_cell? w _ hc)).trans hc
        go_wp2
        go_loopw [59] (fun i wr => ∃ (j : Nat), j ≤ xs.length ∧ i = .int .i64 j ∧ Hid (∀ y ∈ xs.take j, overX js ent y = false) ∧ Below w.heap.size w wr) (fun i _ => xs.length - (intOf i).toNat)
        case atStart => exact ⟨0, by omega, rfl, hov, b1⟩
        case round =>
          obtain ⟨j, hj, rfl, hn, hbr⟩ := hrel
          have hc2 := (hbr.cell (p := ⟨b, 0, none⟩) (World.block_lt_of_cell? w _ hc)).trans hc
          have hzr := hbr.size
          by_cases hlt : j < xs.length
          · obtain ⟨x, hx⟩ := some_of_lt hlt
            obtain ⟨b2, o2, rfl, c1, c2⟩ := sy.item (ks.of_below hbr) hx
            have i1 : (0 : Int) ≤ (j : Int) := by omega
            have i2 : (j : Int) < (xs.length : Int) := by omega
            have hX := hamt.out x (List.mem_of_getElem? hx.out)
            have hB := hbx x.kind
            obtain ⟨q1, q2⟩ : -4000000000000000 ≤ balance js ent x.kind 399 ∧ balance js ent x.kind 399 ≤ 4000000000000000 := by omega
            clear hB
            have HO : Hid (overX js ent x = !money (balance js ent x.kind 399 + x.amt)) := rfl
            have BCx := BCr x.kind
            generalize balance js ent x.kind 399 = v at *
            have hwp : IntKind.i64.wrap (v + x.amt) = v + x.amt := by rw [IntKind.wrap_i64]; omega
            cases hm : money (v + x.amt) with
            | true =>
              have HN : Hid (∀ y ∈ xs.take (j + 1), overX js ent y = false) := by
                intro y hy
                rw [take_next hx] at hy
                rcases List.mem_append.1 hy with hy | hy
                · exact hn.out y hy
                · simp at hy; subst hy; rw [HO.out, hm]; rfl
              clear HP2
              go_wp2
              go_region_held3 (fun w' => w'.cell? ⟨wr.heap.size, 0, none⟩ = some (.int .i64 x.kind) ∧ w'.cell? ⟨wr.heap.size, 1, none⟩ = some (.int .i64 x.amt))
                (first | go_keep | (go_split_ands; exact ⟨(b3.cell (by simp)).trans (by simp), (b3.cell (by simp)).trans (by simp)⟩))
                (first
                  | (go_at_call 16; refine (BCx _ (by repeat (first | exact hbr | apply Below.drew | refine Below.alloc ?_ (by first | (simp; done) | (simp; omega) | omega) _))).mono ?_; rintro e w3 ⟨rfl, b3⟩)
                  | (go_at_call 23; refine (money_calls _ _).mono ?_; rintro e w' ⟨rfl, rfl⟩))
              clear hwp
              go_wp2
              go_roundw
              case rel => exact ⟨j + 1, by omega, by go_num, HN, (by repeat (first | exact hbr | apply Below.drew | refine Below.alloc ?_ (by first | (simp; done) | (simp; omega) | omega) _ | refine Below.trans ?_ (b3.mono (by first | (simp; done) | (simp; omega) | omega))))⟩
              case measure => simp [intOf]; omega
            | false =>
              have HE : Hid (postE js ent per 2 of xs = 6) := by
                unfold Hid
                rw [HP2.out, if_neg h2, if_pos]
                exact List.any_eq_true.2 ⟨x, List.mem_of_getElem? hx.out, by rw [HO.out, hm]; rfl⟩
              clear HP2
              go_wp2
              go_region_held3 (fun w' => w'.cell? ⟨wr.heap.size, 0, none⟩ = some (.int .i64 x.kind) ∧ w'.cell? ⟨wr.heap.size, 1, none⟩ = some (.int .i64 x.amt))
                (first | go_keep | (go_split_ands; exact ⟨(b3.cell (by simp)).trans (by simp), (b3.cell (by simp)).trans (by simp)⟩))
                (first
                  | (go_at_call 16; refine (BCx _ (by repeat (first | exact hbr | apply Below.drew | refine Below.alloc ?_ (by first | (simp; done) | (simp; omega) | omega) _))).mono ?_; rintro e w3 ⟨rfl, b3⟩)
                  | (go_at_call 23; refine (money_calls _ _).mono ?_; rintro e w' ⟨rfl, rfl⟩))
              clear hwp
              go_wp2
              go_ret2
              exact .no HE.out (by decide) hp hs (by repeat (first | exact hbr | apply Below.drew | refine Below.alloc ?_ (by first | (simp; done) | (simp; omega) | omega) _ | refine Below.trans ?_ (b3.mono (by first | (simp; done) | (simp; omega) | omega))))
          · have hany : xs.any (overX js ent) = false := by
              rw [List.any_eq_false]
              intro y hy
              rw [hn.out y (by rw [List.take_of_length_le (by omega)]; exact hy)]; decide
            have HE := Lib.hid (HP2.out.trans (by rw [if_neg h2, hany, if_neg (by decide)]))
            have OC := fun W (hW : Below w.heap.size w W) => own_calls ⟨js.length + 1, ent, per, 2, of, xs⟩ D cd k W (ks.of_below hW) sy (show xs.length ≤ 1000000 by omega)
            clear HP2 hany
            have j1 : (0 : Int) ≤ (js.length : Int) := by omega
            have j2 : (js.length : Int) < 200 := by omega
            have hf2 : wr.frozen? ⟨b, 0, none⟩ = false := (hbr.frozen (p := ⟨b, 0, none⟩) (World.block_lt_of_cell? w _ hc)).trans (frozen_of_row w b 0 _ _ hbw)
            have hlb := Nat.lt_of_lt_of_le (World.block_lt_of_cell? w _ hc) hzr
            simp only at hlb
            go_wp2
            go_region_law (first
              | (refine step_app1 (hx := h2) (h := h.del b) (xs := js) (A := A) (cap := ca) (y := ⟨js.length + 1, ent, per, 2, of, xs⟩) Try.underlying26 info_jou (by rfl) (by rfl) rfl js.length 1 (by rfl) (by rfl) rfl ow (hd.of_below (by repeat (first | exact hbr | apply Below.drew | refine Below.alloc ?_ (by first | (simp; done) | (simp; omega) | omega) _ | refine Below.trans ?_ (u2.below.mono (by first | (simp; done) | (simp; omega) | omega))))) (heap_new_at (by simp)) ⟨C2, cap2, rfl, o2⟩ (u2.sub.of_below (by repeat (first | exact Below.refl _ _ | apply Below.drew | refine Below.alloc ?_ (by simp) _))) (u2.apart (fun _ e => absurd rfl e) (hd.of_below (by repeat (first | exact hbr | apply Below.drew | refine Below.alloc ?_ (by first | (simp; done) | (simp; omega) | omega) _)))).symm (by omega) (by omega) ?_; intro C' cap' w3 h3 ho3 hu3; have hcv : w3.cell? ⟨b, 0, none⟩ = _ := hu3.cell ((cell_alloc (by omega)).trans hcw) (by simp [Hp.or, Hp.del_self, h2n.out]); have hfv : w3.frozen? ⟨b, 0, none⟩ = _ := (hu3.frozen (p := ⟨b, 0, none⟩) (by first | (simp; done) | (simp; omega) | omega) (by simp [Hp.or, Hp.del_self, h2n.out])).trans ((frozen_alloc (by omega)).trans hfw))
              | (rw [if_pos (by rfl)]; go_simp; refine (OC _ (by repeat (first | exact hbr | apply Below.drew | refine Below.alloc ?_ (by first | (simp; done) | (simp; omega) | omega) _))).mono ?_; rintro e w2 ⟨C2, cap2, h2, rfl, o2, u2⟩; dsimp only; have hz2 := u2.size; simp at hz2; have hcw : w2.cell? ⟨b, 0, none⟩ = _ := (u2.below.cell (p := ⟨b, 0, none⟩) (by simp; omega)).trans (by simpa using hc2); have hfw : w2.frozen? ⟨b, 0, none⟩ = _ := (u2.below.frozen (p := ⟨b, 0, none⟩) (by simp; omega)).trans (by simpa using hf2); have h2n : Hid (h2 b = none) := u2.new_none (by first | (simp; done) | (simp; omega) | omega); have hlb2 : b < w2.heap.size := Nat.lt_of_lt_of_le hlb hz2; have hca : ∀ o, (w2.alloc o).cell? ⟨b, 0, none⟩ = some (.slice A js.length ca) := fun o => (cell_alloc hlb2).trans hcw))
            all_goals
              go_wp2
            all_goals
              have U : Upd (h.del b) h3 w w3 := (Upd.eat ((u2.before (by repeat (first | exact Below.refl _ _ | apply Below.drew | refine Below.alloc ?_ (by simp) _))).after (by repeat (first | exact Below.refl _ _ | apply Below.drew | refine Below.alloc ?_ (by simp) _))) hu3).before hbr
              obtain ⟨UF, hn3⟩ := Upd.field (v := .slice C' (js.length + 1) cap') 0 hb hs (Hp.le_refl _) U
              clear hu3 u2
              go_ret2
              exact ⟨_, by unfold postSeq; rw [HE]; rfl, ⟨_, Hp.put_self, C', cap', by unfold post; rw [HE, if_pos rfl, List.length_append]; rfl, by rw [Hp.put_del hn3]; unfold post; rw [HE, if_pos rfl]; exact ho3⟩, UF⟩
  · have hb0 : (linesE js ent per kind of xs != 0) = true := by simpa using hL
    have HE : Hid (postE js ent per kind of xs = linesE js ent per kind of xs) := by unfold Hid; rw [HP.out, if_pos hL]
    have HL : Hid (linesE js ent per kind of xs ≠ 0) := hL
    clear HP hL
    rcases hk with ⟨rfl, rfl⟩ | rfl
    all_goals
      go_enter Try.func9, Try.ntmps9
      go_wp2_with (go_at_call 21; refine (PC _).mono ?_; rintro e w' ⟨rfl, rfl⟩)
      refine (LC _ (Below.refl _ _)).mono ?_
      rintro e w1 ⟨rfl, b1⟩
      go_wp2
      go_ret2
      exact .no HE.out HL.out hp hs b1
end Go.Proofs.Ytbaklmlnfdlmmaa
end
section
/- The memory that a body holds: parts of its own, apart from each other, all made since it began. No program is named here. -/
namespace Go.Sl
open Go Go.RowKit
/-- Of the world w0 nothing has turned; the parts l were made since, and are apart. -/
structure Env (w0 w : World) (l : List Hp) : Prop where
  own : Own w l
  fr : ∀ h ∈ l, ∀ q, h q ≠ Option.none → w0.heap.size ≤ q
  low : Below w0.heap.size w0 w
section
variable {w0 w w1 : World} {l : List Hp} {h h' : Hp}
theorem Env.start (w : World) : Env w w [] := ⟨trivial, fun _ e => absurd e (by simp), Below.refl _ _⟩
theorem Env.below (E : Env w0 w l) (b : Below w.heap.size w w1) : Env w0 w1 l := ⟨E.own.below b, E.fr, E.low.trans (b.mono E.low.size)⟩
theorem Own.snoc {w : World} {h' : Hp} (s : h'.sub w) : ∀ {l : List Hp}, Own w l → (∀ k ∈ l, k.apart h') → Own w (l ++ [h'])
  | [], _, _ => ⟨s, fun _ e => absurd e (by simp), trivial⟩
  | k :: l, o, a => ⟨o.1, fun q hq => by
      rcases List.mem_append.1 hq with hq | hq
      · exact o.2.1 q hq
      · simp at hq; subst hq; exact a k (by simp), o.2.2.snoc s fun q hq => a q (by simp [hq])⟩
theorem Env.new (E : Env w0 w l) (u : Upd Hp.none h' w w1) : Env w0 w1 (l ++ [h']) :=
  ⟨(E.own.below u.below).snoc u.sub fun k hk => (u.apart (fun _ e => absurd rfl e) (E.own.mem k hk)).symm, fun k hk q hq => by
    rcases List.mem_append.1 hk with hk | hk
    · exact E.fr k hk q hq
    · simp at hk; subst hk
      rcases u.dom q hq with e | e
      · exact absurd rfl e
      · exact Nat.le_trans E.low.size e, E.low.trans (u.below.mono E.low.size)⟩
theorem Env.upd (E : Env w0 w l) (i : Nat) (hi : l[i]? = some h) (u : Upd h h' w w1) : Env w0 w1 (l.set i h') :=
  ⟨E.own.upd u i hi, fun k hk q hq => by
    rcases List.mem_or_eq_of_mem_set hk with hk | rfl
    · exact E.fr k hk q hq
    · rcases u.dom q hq with e | e
      · exact E.fr h (List.mem_of_getElem? hi) q e
      · exact Nat.le_trans E.low.size e,
   ⟨u.os.trans E.low.os, u.tape.trans E.low.tape, u.output.trans E.low.output, Nat.le_trans E.low.size u.size, fun q hq => by
    refine (u.keep q (Nat.lt_of_lt_of_le hq E.low.size) ?_).trans (E.low.block q hq)
    cases hh : h q with
    | none => rfl
    | some o => have := E.fr h (List.mem_of_getElem? hi) q (by simp [hh]); omega⟩⟩
theorem Env.sub (E : Env w0 w l) (i : Nat) (hi : l[i]? = some h) : h.sub w := E.own.get i h hi
theorem Env.drop (E : Env w0 w l) (i : Nat) : Env w0 w (l.eraseIdx i) := ⟨E.own.erase i, fun k hk => E.fr k (List.mem_of_mem_eraseIdx hk), E.low⟩
theorem Env.arg (E : Env w0 w l) {k : Hp} (s : k.sub w0) : k.sub w := s.of_below E.low
/-- A new block. -/
theorem Upd.newBlock (w : World) (o : Obj) : Upd Hp.none (Hp.one w.heap.size o) w (w.alloc o) :=
  ⟨rfl, rfl, rfl, by simp, fun q hq _ => heap_old_at hq, Hp.one_sub (heap_new_at rfl), fun q hq => by
    right
    simp only [Hp.one] at hq
    split at hq
    · omega
    · exact absurd rfl hq⟩
theorem Hp.sub.free {h : Hp} {w : World} (s : h.sub w) {b : Nat} (hb : w.heap.size ≤ b) : h b = Option.none := by
  cases hh : h b with
  | none => rfl
  | some o => have := s.lt (b := b) (by simp [hh]); omega
/-- A new block that holds what was made before. -/
theorem Upd.put {o : Obj} (u : Upd Hp.none h' w w1) : Upd Hp.none (h'.put w1.heap.size o) w (w1.alloc o) :=
  ⟨u.os, u.tape, u.output, by simp; exact Nat.le_trans u.size (Nat.le_succ _), fun q hq hn => (heap_old_at (Nat.lt_of_lt_of_le hq u.size)).trans (u.keep q hq hn), Hp.put_sub (u.sub.of_below ((Below.refl _ _).alloc (Nat.le_refl _) _)) (heap_new_at rfl), fun q hq => by
    simp only [Hp.put] at hq
    split at hq
    · right; have := u.size; omega
    · exact u.dom q hq⟩
theorem Env.alloc (E : Env w0 w l) (o : Obj) : Env w0 (w.alloc o) (l ++ [Hp.one w.heap.size o]) := E.new (Upd.newBlock w o)
theorem Env.drew (E : Env w0 w l) : Env w0 w.drew l := E.below ((Below.refl _ _).drew)
theorem Env.drewN (E : Env w0 w l) (n : Nat) : Env w0 (w.drewN n) l := E.below ⟨rfl, rfl, rfl, Nat.le_refl _, fun _ _ => rfl⟩
theorem Env.alloc' (E : Env w0 w l) (o : Obj) : Env w0 (w.alloc o) l := E.below ((Below.refl _ _).alloc (Nat.le_refl _) o)
theorem flatMap_len {α : Type} {size : Nat} {cells : α → List Value} (hl : ∀ x, (cells x).length = size) : ∀ xs : List α, (xs.flatMap cells).length = xs.length * size
  | [] => by simp
  | y :: ys => by simp only [List.flatMap_cons, List.length_append, hl, flatMap_len hl ys, List.length_cons, Nat.add_mul, Nat.one_mul]; omega
/-- A literal of flat elements in a new block, owned. -/
theorem Ow.lit {α : Type} {size : Nat} {cells : α → List Value} {pos : 0 < size} {hl : ∀ x, (cells x).length = size} {h1 : ∀ x, ∀ u ∈ cells x, u.oneCell' = true} {h : Hp} {b : Nat} {t : TypeId} {xs : List α}
    (hb : h b = some (.cells (xs.flatMap cells).toArray t (0, 0))) (hm : xs.length ≤ maxLen) : Ow (Kd.flat size cells pos hl h1) h (some ⟨b, 0, .none⟩) xs.length xs :=
  ⟨Nat.le_refl _, hm, (fun e => (nomatch e)), fun ad e _ => by
    cases e
    refine ⟨b, 0, _, t, rfl, hb, ?_, fun i x hx => ⟨cells x, rfl, fun j u hu => ?_⟩⟩
    · have := flatMap_len hl xs
      simp only [Kd.flat, List.size_toArray, this]; omega
    · rw [Nat.zero_add, List.getElem?_toArray]; exact flatMap_get hl xs i x hx j u hu⟩
/-- The rest of a part turns, one block stands. -/
theorem Upd.rest {k' : Hp} {b : Nat} {o : Obj} (hb : h b = some o) (s : h.sub w) (u : Upd (h.del b) k' w w1) : Upd h (k'.put b o) w w1 ∧ k' b = .none := by
  have hlt := s.lt (b := b) (by simp [hb])
  have hk : k' b = .none := by
    cases hh : k' b with
    | none => rfl
    | some q =>
      rcases u.dom b (by simp [hh]) with e | e
      · exact absurd Hp.del_self e
      · omega
  refine ⟨⟨u.os, u.tape, u.output, u.size, fun q hq hn => u.keep q hq (by simp [Hp.del, hn]), fun q o' e => ?_, fun q e => ?_⟩, hk⟩
  · simp only [Hp.put] at e
    split at e
    · rename_i hq; cases e; rw [hq]; exact (u.keep b hlt Hp.del_self).trans (s b _ hb)
    · exact u.sub q o' e
  · simp only [Hp.put] at e
    split at e
    · rename_i hq; left; rw [hq, hb]; simp
    · rcases u.dom q e with h1 | h1
      · left; intro h0; exact h1 (by simp [Hp.del, h0])
      · exact .inr h1
theorem Own.apart_of {w : World} : ∀ {l : List Hp}, Own w l → ∀ {i j : Nat} {h k : Hp}, l[i]? = some h → l[j]? = some k → i ≠ j → h.apart k
  | [], _, i, j, h, k, e, _, _ => by simp at e
  | a :: l, o, 0, 0, h, k, _, _, n => absurd rfl n
  | a :: l, o, 0, j + 1, h, k, e1, e2, _ => by simp at e1 e2; subst e1; exact o.2.1 k (List.mem_of_getElem? e2)
  | a :: l, o, i + 1, 0, h, k, e1, e2, _ => by simp at e1 e2; subst e2; exact (o.2.1 h (List.mem_of_getElem? e1)).symm
  | a :: l, o, i + 1, j + 1, h, k, e1, e2, n => o.2.2.apart_of (i := i) (j := j) (by simpa using e1) (by simpa using e2) (by omega)
/-- A part is written into, and not told any more. -/
theorem Env.scratch (E : Env w0 w l) (i : Nat) (hi : l[i]? = some h) {b j : Nat} {v : Value} (hb : h b ≠ .none) : Env w0 (w.setCell ⟨b, j, .none⟩ v) (l.eraseIdx i) := by
  have D := E.drop i
  have hB : w0.heap.size ≤ b := E.fr h (List.mem_of_getElem? hi) b hb
  have hn : ∀ k ∈ l.eraseIdx i, k b = .none := fun k hk => by
    obtain ⟨m, hm⟩ := List.mem_iff_getElem?.1 hk
    rw [List.getElem?_eraseIdx] at hm
    split at hm
    · exact E.own.apart_of hi hm (by omega) b hb
    · exact E.own.apart_of hi hm (by omega) b hb
  have G : Below b w (w.setCell ⟨b, j, .none⟩ v) := (Below.refl b w).setCell (Nat.le_refl _) v
  have S : (w.setCell ⟨b, j, .none⟩ v).heap.size = w.heap.size := by simp
  refine ⟨?_, D.fr, D.low.setCell hB v⟩
  have key : ∀ l : List Hp, Own w l → (∀ k ∈ l, k b = .none) → Own (w.setCell ⟨b, j, .none⟩ v) l := by
    intro l
    induction l with
    | nil => exact fun _ _ => trivial
    | cons k l ih =>
      intro o hk
      refine ⟨fun q o' e => ?_, o.2.1, ih o.2.2 fun x hx => hk x (by simp [hx])⟩
      rw [Below.heap_setCell w ⟨b, j, .none⟩ v q (fun hq => by have := hk k (by simp); rw [show q = b from hq, this] at e; cases e)]
      exact o.1 q o' e
  exact key _ D.own hn
end
end Go.Sl
end
section
/- The walks of store.New and store.Clone. -/
namespace Go.Proofs.Ytbaklmlnfdlmmaa
open Go.RowKit Go.Sl
set_option maxHeartbeats 1000000
set_option maxRecDepth 100000
theorem storeNew_calls (w : World) : Calls Try.prog 4 #[] w fun e w' => ∃ h b, e = .returned (.pointer (some ⟨b, 0, none⟩)) ∧ Pt kSt 52 h b [] ∧ Upd Hp.none h w w' := by
  go_enter Try.func4, Try.ntmps4
  go_wp2
  go_ret
  exact ⟨_, _, rfl, ⟨_, Hp.one_self _ _, none, 0, rfl, Ow.none _ _⟩, Upd.newBlock w _⟩
theorem storeClone_calls (p : Nat) (A : Option Addr) (ca : Nat) (js : List SJ) (h : Hp) (w : World) (hs : h.sub w) (hc : w.cell? ⟨p, 0, none⟩ = some (.slice A js.length ca)) (sx : Sl kJ h A ca js) (hl : js.length ≤ 1000000) (hll : ∀ x ∈ js, x.lines.length ≤ 1000000) :
    Calls Try.prog 8 #[.pointer (some ⟨p, 0, none⟩)] w fun e w' => ∃ h b, e = .returned (.pointer (some ⟨b, 0, none⟩)) ∧ Pt kSt 52 h b js ∧ Upd Hp.none h w w' := by
  go_enter Try.func8, Try.ntmps8
  go_wp2_with fail
  refine (journals_calls p A ca js h w hs hc sx hl hll).mono ?_
  rintro e w1 ⟨C, cap, h1, rfl, o1, u1⟩
  go_wp2
  go_ret
  exact ⟨_, _, rfl, ⟨_, Hp.put_self, C, cap, rfl, by rw [Hp.put_del (u1.sub.free (Nat.le_refl _))]; exact o1⟩, u1.put⟩
/-- What the store's pointer gives to readers. -/
theorem _root_.Go.Sl.Pt.store {T : TypeId} {h : Hp} {b : Nat} {js : List SJ} {w : World} (p : Pt kSt T h b js) (s : h.sub w) : ∃ A ca, w.cell? ⟨b, 0, none⟩ = some (.slice A js.length ca) ∧ Sl kJ h A ca js := by
  obtain ⟨cs, hb, A, ca, rfl, ow⟩ := p
  exact ⟨A, ca, by rw [cell_of_row w b 0 _ _ _ (s b _ hb)]; rfl, ow.sl.mono (Hp.del_le _ _)⟩
/-- The readers, at a pointer. -/
theorem balance_at {b : Nat} {js : List SJ} {h : Hp} {w : World} (hp : Pt kSt 52 h b js) (hs : h.sub w) (hl : js.length ≤ 1000) (ent : ByteArray) (a upto : Int) :
    Calls Try.prog 16 #[.pointer (some ⟨b, 0, none⟩), .string ent, .int .i64 a, .int .i64 upto] w fun e w' => e = .returned (.int .i64 (balance js ent a upto)) ∧ Below w.heap.size w w' := by
  obtain ⟨A, ca, hc, sx⟩ := hp.store hs
  exact balance_calls b A ca js ent a upto h w hs hc sx hl
theorem journals_at {b : Nat} {js : List SJ} {h : Hp} {w : World} (hp : Pt kSt 52 h b js) (hs : h.sub w) (hl : js.length ≤ 1000) (hll : ∀ x ∈ js, x.lines.length ≤ 1000000) :
    Calls Try.prog 12 #[.pointer (some ⟨b, 0, none⟩)] w fun e w' => ∃ C cap h', e = .returned (.slice C js.length cap) ∧ Ow kJ h' C cap js ∧ Upd Hp.none h' w w' := by
  obtain ⟨A, ca, hc, sx⟩ := hp.store hs
  exact journals_calls b A ca js h w hs hc sx (by omega) hll
theorem clone_at {b : Nat} {js : List SJ} {h : Hp} {w : World} (hp : Pt kSt 52 h b js) (hs : h.sub w) (hl : js.length ≤ 1000) (hll : ∀ x ∈ js, x.lines.length ≤ 1000000) :
    Calls Try.prog 8 #[.pointer (some ⟨b, 0, none⟩)] w fun e w' => ∃ h b, e = .returned (.pointer (some ⟨b, 0, none⟩)) ∧ Pt kSt 52 h b js ∧ Upd Hp.none h w w' := by
  obtain ⟨A, ca, hc, sx⟩ := hp.store hs
  exact storeClone_calls b A ca js h w hs hc sx (by omega) hll
end Go.Proofs.Ytbaklmlnfdlmmaa
end
section
/- The walk of store.Trial. -/
namespace Go.Sl
/-- Accounts whose sums are not 0, of the first n. -/
def trialTo (f : Int → Int) : Nat → List SItem
  | 0 => []
  | n + 1 => trialTo f n ++ if f (n + 1) = 0 then [] else [⟨n + 1, f (n + 1)⟩]
theorem trialTo_len (f : Int → Int) : ∀ n, (trialTo f n).length ≤ n
  | 0 => by simp [trialTo]
  | n + 1 => by
    have := trialTo_len f n
    simp only [trialTo, List.length_append]
    split <;> simp <;> omega
theorem trialTo_no {f : Int → Int} {n : Nat} (h : f (n + 1) = 0) : trialTo f (n + 1) = trialTo f n := by simp [trialTo, h]
theorem trialTo_yes {f : Int → Int} {n : Nat} (h : f (n + 1) ≠ 0) : trialTo f (n + 1) = trialTo f n ++ [⟨n + 1, f (n + 1)⟩] := by simp [trialTo, h]
theorem mergeTo_trial (xs : List SItem) : ∀ n, mergeTo xs n = trialTo (fun a => accSum a xs) n
  | 0 => rfl
  | n + 1 => by simp only [mergeTo, trialTo, mergeTo_trial xs n]
def trial (js : List SJ) (ent : ByteArray) (upto : Int) : List SItem := trialTo (fun a => balance js ent a upto) 7
end Go.Sl
namespace Go.Proofs.Ytbaklmlnfdlmmaa
open Go.RowKit Go.Sl
set_option maxHeartbeats 1000000
set_option maxRecDepth 100000
theorem trial_calls (p : Nat) (A : Option Addr) (ca : Nat) (js : List SJ) (ent : ByteArray) (upto : Int) (h : Hp) (w : World) (hs : h.sub w) (hc : w.cell? ⟨p, 0, none⟩ = some (.slice A js.length ca)) (sx : Sl kJ h A ca js) (hl : js.length ≤ 1000) :
    Calls Try.prog 14 #[.pointer (some ⟨p, 0, none⟩), .string ent, .int .i64 upto] w fun e w' => ∃ C cap h', e = .returned (.slice C (trial js ent upto).length cap) ∧ Ow kItem h' C cap (trial js ent upto) ∧ Upd Hp.none h' w w' := by
  obtain ⟨i0, hi, hz0, hz1, hz2⟩ := info_parts Try.infoLine
  have hp := World.block_lt_of_cell? w _ hc
  have BC := fun (a : Int) (W : World) (hW : Below w.heap.size w W) => balance_calls p A ca js ent a upto h W (hs.of_below hW) ((hW.cell hp).trans hc) sx hl
  obtain ⟨F, hF⟩ : ∃ F : Int → Int, F = fun a => balance js ent a upto := ⟨_, rfl⟩
  have BC' : ∀ (a : Int) (W : World), Below w.heap.size w W → Calls Try.prog 16 #[.pointer (some ⟨p, 0, none⟩), .string ent, .int .i64 a, .int .i64 upto] W fun e w' => e = .returned (.int .i64 (F a)) ∧ Below W.heap.size W w' := fun a W hW => by
    rw [hF]; exact BC a W hW
  have HF : Hid (trial js ent upto = trialTo F 7) := by unfold Hid trial; rw [hF]
  clear BC hF
  go_enter Try.func14, Try.ntmps14
  go_wp2_with fail
  refine (accounts_calls _).mono ?_
  rintro e w2 ⟨D, dcap, hd, rfl, od, u2⟩
  go_wp2
  go_loopw [7, 13] (fun v i wr => ∃ (j cap n : Nat) (C : Option Addr) (h' : Hp), j ≤ 7 ∧ i = .int .i64 j ∧ v = .slice C n cap ∧ Hid (n = (trialTo F j).length) ∧ Hid (Ow kItem h' C cap (trialTo F j)) ∧ Hid (h'.apart hd) ∧ hd.sub wr ∧ Upd Hp.none h' w wr) (fun _ i _ => 7 - (intOf i).toNat)
  case atStart => exact ⟨0, 0, 0, none, Hp.none, by omega, rfl, rfl, rfl, Ow.none _ _, fun _ e => absurd rfl e, u2.sub, Upd.of_below u2.below⟩
  case round =>
    obtain ⟨j, cap, n, C, h', hj, rfl, rfl, hn, ho, ha, sd, hu⟩ := hrel
    by_cases hlt : j < 7
    · have hx : Hid (([1, 2, 3, 4, 5, 6, 7] : List Int)[j]? = some ((j : Int) + 1)) := acct_get hlt
      obtain ⟨b1', o1, e1, c1⟩ := od.sl.int sd hx
      subst e1
      have i1 : (0 : Int) ≤ (j : Int) := by omega
      have i2 : (j : Int) < 7 := by omega
      have hlen := trialTo_len F j
      have hn2 : n ≤ 7 := by rw [hn.out]; omega
      have D := BC' ((j : Int) + 1) wr hu.below
      generalize hg : F ((j : Int) + 1) = s at *
      by_cases h0 : s = 0
      · have hb : (s != 0) = false := by simpa using h0
        have HT : Hid (trialTo F (j + 1) = trialTo F j) := trialTo_no (by rw [hg]; exact h0)
        clear h0 hg
        go_wp2_with (go_at_call 16; refine D.mono ?_; rintro e w3 ⟨rfl, b3⟩)
        go_roundw
        case rel => exact ⟨j + 1, cap, n, C, h', by omega, by go_num, rfl, by rw [HT.out]; exact hn, by rw [HT.out]; exact ho, ha, sd.of_below b3, hu.after b3⟩
        case measure => simp [intOf]; omega
      · have hb : (s != 0) = true := by simpa using h0
        have HT : Hid (trialTo F (j + 1) = trialTo F j ++ [⟨(j : Int) + 1, s⟩]) := by unfold Hid; rw [← hg]; exact trialTo_yes (by rw [hg]; exact h0)
        clear h0 hg
        go_wp2_with (first
          | (go_at_call 16; refine D.mono ?_; rintro e w3 ⟨rfl, b3⟩)
          | (at_builtin; refine wpList_append (k := kItem) (h := h') (hx := Hp.none) (A := C) (cap := cap) (B := some ⟨w3.heap.size, 0, none⟩) (xs := trialTo F j) (ys := [⟨(j : Int) + 1, s⟩]) (by rfl) (.tmp 24) (.tmp 28) 34 (by rfl) 43 i0 (.agg #[.int .i64 0, .int .i64 0]) Try.underlying34 hi hz0 hz1 (by rfl) 16 hz2 n 1 1 hn.out.symm rfl (by rfl) (by rfl) ho.out ((hu.sub.of_below b3).of_below (by repeat (first | exact Below.refl _ _ | apply Below.drew | refine Below.alloc ?_ (by simp) _))) (Src.new (heap_new_at (by simp)) rfl) (Hp.none_sub _) (Hp.apart_none _) (by unfold maxLen; omega) (by omega) ?_; intro C' cap' w4 h1 ho1 hu1))
        go_roundw
        case rel =>
          have bb : Below w3.heap.size w3 (w3.alloc (.cells #[.int .i64 ((j : Int) + 1), .int .i64 s] 43)) := (Below.refl _ _).alloc (Nat.le_refl _) _
          have hh : h'.apart hd := ha.out
          exact ⟨j + 1, cap', n + 1, C', h1, by omega, by go_num, rfl, by rw [HT.out]; unfold Hid; rw [List.length_append, ← hn.out]; rfl, by rw [HT.out]; exact ho1, hu1.flat.apart hh ((sd.of_below b3).of_below bb), hu1.flat.keeps hh ((sd.of_below b3).of_below bb), (hu.after b3).trans (hu1.flat.before bb)⟩
        case measure => simp [intOf]; omega
    · obtain rfl : j = 7 := by omega
      go_wp2
      go_ret
      exact ⟨C, cap, h', by rw [hn.out, HF.out]; rfl, by rw [HF.out]; exact ho.out, hu⟩
end Go.Proofs.Ytbaklmlnfdlmmaa
end
section
/- The store's functions, in a body's own memory. -/
namespace Go.Sl
/-- What holds of all stores. -/
structure GoodS (js : List SJ) : Prop where
  len : js.length ≤ 200
  lines : ∀ x ∈ js, x.lines.length ≤ 20
theorem GoodS.nil : GoodS [] := ⟨by simp, by simp⟩
theorem postE_len {js : List SJ} {ent : ByteArray} {p kind of : Int} {xs : List SItem} (h : postE js ent p kind of xs = 0) : js.length < 200 ∧ checkE xs = 0 := by
  unfold postE at h
  split at h
  · cases h
  · split at h
    · contradiction
    · rename_i h2
      have h3 : linesE js ent p kind of xs = 0 := by simpa using h2
      split at h
      · cases h
      · exact ⟨by omega, Proofs.Ytbaklmlnfdlmmaa.linesE_zero h3⟩
theorem post_ok {js : List SJ} {ent : ByteArray} {p kind of : Int} {xs : List SItem} (h : postE js ent p kind of xs = 0) : post js ent p kind of xs = js ++ [⟨js.length + 1, ent, p, kind, of, xs⟩] := by unfold post; rw [if_pos h]
theorem post_no {js : List SJ} {ent : ByteArray} {p kind of : Int} {xs : List SItem} (h : postE js ent p kind of xs ≠ 0) : post js ent p kind of xs = js := by unfold post; rw [if_neg h]
theorem GoodS.post {js : List SJ} {ent : ByteArray} {p kind of : Int} {xs : List SItem} (g : GoodS js) : GoodS (post js ent p kind of xs) := by
  by_cases h : postE js ent p kind of xs = 0
  · rw [post_ok h]
    have h2 := postE_len h
    have h3 := Proofs.Ytbaklmlnfdlmmaa.check_len h2.2
    refine ⟨by simp; omega, fun x hx => ?_⟩
    rcases List.mem_append.1 hx with hx | hx
    · exact g.lines x hx
    · simp at hx; subst hx; exact h3
  · rw [post_no h]; exact g
end Go.Sl
namespace Go.Proofs.Ytbaklmlnfdlmmaa
open Go.RowKit Go.Sl
set_option maxHeartbeats 1000000
set_option maxRecDepth 100000
/-- A store at a pointer. -/
structure Sto (h : Hp) (b : Nat) (js : List SJ) : Prop where
  pt : Pt kSt 52 h b js
  good : GoodS js
section
variable {w0 w : World} {l : List Hp} {h : Hp} {b : Nat} {js : List SJ}
theorem Sto.new (E : Env w0 w l) : Calls Try.prog 4 #[] w fun e w' => ∃ h b, e = .returned (.pointer (some ⟨b, 0, none⟩)) ∧ Sto h b [] ∧ Env w0 w' (l ++ [h]) :=
  (storeNew_calls w).mono fun _ _ ⟨h, b, he, hp, u⟩ => ⟨h, b, he, ⟨hp, GoodS.nil⟩, E.new u⟩
theorem Sto.post_any (S : Sto h b js) (E : Env w0 w l) (i : Nat) (hi : l[i]? = some h) (ent : ByteArray) (per kind of : Int) {D : Option Addr} {cd : Nat} {xs : List SItem} {k : Hp} (sy : Sl kItem k D cd xs) (ks : k.sub w) :
    Calls Try.prog 9 #[.pointer (some ⟨b, 0, none⟩), .string ent, .int .i64 per, .int .i64 kind, .int .i64 of, .slice D xs.length cd] w fun e w' =>
      ∃ h', e = .returned (.tuple #[.int .i64 (postSeq js ent per kind of xs), .int .i64 (postE js ent per kind of xs)]) ∧ Sto h' b (post js ent per kind of xs) ∧ Env w0 w' (l.set i h') :=
  (post_calls b js ent per kind of h w (E.sub i hi) S.pt (by have := S.good.len; omega) (fun x hx => by have := S.good.lines x hx; omega) D cd xs k ks sy).mono fun _ _ ⟨h', he, hp, u⟩ => ⟨h', he, ⟨hp, S.good.post⟩, E.upd i hi u⟩
theorem Sto.post_ok (S : Sto h b js) (E : Env w0 w l) (i : Nat) (hi : l[i]? = some h) {ent : ByteArray} {per kind of : Int} {D : Option Addr} {cd : Nat} {xs : List SItem} {k : Hp} (sy : Sl kItem k D cd xs) (ks : k.sub w) (n : Nat) (hn : xs.length = n) (hE : postE js ent per kind of xs = 0) (m : Int) (hm : (js.length : Int) + 1 = m) :
    Calls Try.prog 9 #[.pointer (some ⟨b, 0, none⟩), .string ent, .int .i64 per, .int .i64 kind, .int .i64 of, .slice D n cd] w fun e w' =>
      ∃ h', e = .returned (.tuple #[.int .i64 m, .int .i64 0]) ∧ Sto h' b (js ++ [⟨m, ent, per, kind, of, xs⟩]) ∧ Env w0 w' (l.set i h') := by
  subst hn
  subst hm
  refine (S.post_any E i hi ent per kind of sy ks).mono ?_
  rintro e w' ⟨h', he, hp, E'⟩
  rw [Go.Sl.post_ok hE] at hp
  exact ⟨h', by rw [he]; unfold postSeq; rw [hE, if_pos rfl], hp, E'⟩
theorem Sto.post_no (S : Sto h b js) (E : Env w0 w l) (i : Nat) (hi : l[i]? = some h) {ent : ByteArray} {per kind of : Int} {D : Option Addr} {cd : Nat} {xs : List SItem} {k : Hp} (sy : Sl kItem k D cd xs) (ks : k.sub w) (n : Nat) (hn : xs.length = n) {q : Int} (hE : postE js ent per kind of xs = q) (h0 : q ≠ 0) :
    Calls Try.prog 9 #[.pointer (some ⟨b, 0, none⟩), .string ent, .int .i64 per, .int .i64 kind, .int .i64 of, .slice D n cd] w fun e w' =>
      ∃ h', e = .returned (.tuple #[.int .i64 0, .int .i64 q]) ∧ Sto h' b js ∧ Env w0 w' (l.set i h') := by
  subst hn
  subst hE
  refine (S.post_any E i hi ent per kind of sy ks).mono ?_
  rintro e w' ⟨h', he, hp, E'⟩
  rw [Go.Sl.post_no h0] at hp
  exact ⟨h', by rw [he]; unfold postSeq; rw [if_neg h0], hp, E'⟩
theorem Sto.balance (S : Sto h b js) (E : Env w0 w l) (i : Nat) (hi : l[i]? = some h) {ent : ByteArray} {a upto : Int} {q : Int} (hq : balance js ent a upto = q) :
    Calls Try.prog 16 #[.pointer (some ⟨b, 0, none⟩), .string ent, .int .i64 a, .int .i64 upto] w fun e w' => e = .returned (.int .i64 q) ∧ Env w0 w' l := by
  subst hq
  exact (balance_at S.pt (E.sub i hi) (by have := S.good.len; omega) ent a upto).mono fun _ _ ⟨he, b⟩ => ⟨he, E.below b⟩
theorem Sto.trial (S : Sto h b js) (E : Env w0 w l) (i : Nat) (hi : l[i]? = some h) {ent : ByteArray} {upto : Int} {q : List SItem} (hq : trial js ent upto = q) :
    Calls Try.prog 14 #[.pointer (some ⟨b, 0, none⟩), .string ent, .int .i64 upto] w fun e w' => ∃ C cap h', e = .returned (.slice C q.length cap) ∧ Ow kItem h' C cap q ∧ Env w0 w' (l ++ [h']) := by
  subst hq
  obtain ⟨A, ca, hc, sx⟩ := S.pt.store (E.sub i hi)
  exact (trial_calls b A ca js ent upto h w (E.sub i hi) hc sx (by have := S.good.len; omega)).mono fun _ _ ⟨C, cap, h', he, ho, u⟩ => ⟨C, cap, h', he, ho, E.new u⟩
theorem Sto.journals (S : Sto h b js) (E : Env w0 w l) (i : Nat) (hi : l[i]? = some h) :
    Calls Try.prog 12 #[.pointer (some ⟨b, 0, none⟩)] w fun e w' => ∃ C cap h', e = .returned (.slice C js.length cap) ∧ Ow kJ h' C cap js ∧ Env w0 w' (l ++ [h']) :=
  (journals_at S.pt (E.sub i hi) (by have := S.good.len; omega) (fun x hx => by have := S.good.lines x hx; omega)).mono fun _ _ ⟨C, cap, h', he, ho, u⟩ => ⟨C, cap, h', he, ho, E.new u⟩
theorem Sto.clone (S : Sto h b js) (E : Env w0 w l) (i : Nat) (hi : l[i]? = some h) :
    Calls Try.prog 8 #[.pointer (some ⟨b, 0, none⟩)] w fun e w' => ∃ h' b', e = .returned (.pointer (some ⟨b', 0, none⟩)) ∧ Sto h' b' js ∧ Env w0 w' (l ++ [h']) :=
  (clone_at S.pt (E.sub i hi) (by have := S.good.len; omega) (fun x hx => by have := S.good.lines x hx; omega)).mono fun _ _ ⟨h', b', he, hp, u⟩ => ⟨h', b', he, ⟨hp, S.good⟩, E.new u⟩
end
end Go.Proofs.Ytbaklmlnfdlmmaa
end
section
/- The walk of ref01.Money. -/
namespace Go.Proofs.Ytbaklmlnfdlmmaa
open Go.RowKit Go.Sl
set_option maxHeartbeats 400000
theorem refMoney_calls (n : Int) (w : World) : Calls Try.prog 30 #[.int .i64 n] w fun e w' => e = .returned (.bool (money n)) ∧ w = w' := by
  go_enter Try.func30, Try.ntmps30
  go_wp2
  all_goals
    go_ret
    exact ⟨by simp [money]; omega, rfl⟩
end Go.Proofs.Ytbaklmlnfdlmmaa
end
