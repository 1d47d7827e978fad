/- Walks and plain facts that the laws of this seat share, part 2: contracts of functions, each said at its theorem. -/
import Derived.Test.YtnpnndifhlihhaaPk1
import Derived.Deep.RegionLaw
import Derived.Deep.RegionHeld3
section
/- The walk of store.Post. -/
namespace Go.Sl
def argsBad (ent : ByteArray) (p kind of : Int) : Bool := ent.toList.isEmpty || (!decide (0 ≤ p ∧ p ≤ 399) || (!decide (kind = 1 ∨ kind = 2) || decide (kind = 1 ∧ of ≠ 0)))
/-- Is a balance with such a line too great? -/
def overX (js : List SJ) (ent : ByteArray) (x : SItem) : Bool := !money (balance js ent x.kind 399 + x.amt)
def postE (js : List SJ) (ent : ByteArray) (p kind of : Int) (xs : List SItem) : Int :=
  if argsBad ent p kind of = true then 1
  else if linesE js ent p kind of xs ≠ 0 then linesE js ent p kind of xs
  else if 200 ≤ js.length then 5
  else if xs.any (overX js ent) = true then 6 else 0
def postSeq (js : List SJ) (ent : ByteArray) (p kind of : Int) (xs : List SItem) : Int := if postE js ent p kind of xs = 0 then js.length + 1 else 0
def post (js : List SJ) (ent : ByteArray) (p kind of : Int) (xs : List SItem) : List SJ := if postE js ent p kind of xs = 0 then js ++ [⟨js.length + 1, ent, p, kind, of, xs⟩] else js
end Go.Sl
namespace Go.Proofs.Ytnpnndifhlihhaa
open Go.RowKit Go.Sl
set_option maxHeartbeats 1000000
set_option maxRecDepth 100000
theorem linesE_zero {js : List SJ} {ent : ByteArray} {p kind of : Int} {xs : List SItem} (h : linesE js ent p kind of xs = 0) : checkE xs = 0 := by
  unfold linesE at h
  split at h
  · split at h
    · contradiction
    · split at h
      · contradiction
      · simp_all
  · exact h
theorem check_amts {xs : List SItem} (h : checkE xs = 0) : ∀ x ∈ xs, -100000000000 ≤ x.amt ∧ x.amt ≤ 100000000000 := fun x hx => by
  unfold checkE at h
  split at h
  · rename_i hb
    simp only [checkB, Bool.and_eq_true] at hb
    have := lines_money hb.1.2 x hx
    simpa [money] using this
  · cases h
theorem check_len {xs : List SItem} (h : checkE xs = 0) : xs.length ≤ 20 := by
  unfold checkE at h
  split at h
  · rename_i hb
    simp only [checkB, Bool.and_eq_true, decide_eq_true_eq] at hb
    exact hb.1.1
  · cases h
theorem perRight_calls (p : Int) (w : World) : Calls Try.prog 63 #[.int .i64 p] w fun e w' => e = .returned (.bool (decide (0 ≤ p ∧ p ≤ 399))) ∧ w = w' := by
  go_enter Try.func63, Try.ntmps63
  go_wp2
  all_goals
    go_ret
    exact ⟨by simp; omega, rfl⟩
/-- What Post returns. -/
def PostAns (b : Nat) (js : List SJ) (ent : ByteArray) (p kind of : Int) (xs : List SItem) (h : Hp) (w : World) (e : Ending) (w' : World) : Prop :=
  ∃ h', e = .returned (.tuple #[.int .i64 (postSeq js ent p kind of xs), .int .i64 (postE js ent p kind of xs)]) ∧ Pt kSt 93 h' b (post js ent p kind of xs) ∧ Upd h h' w w'
theorem PostAns.no {b : Nat} {js : List SJ} {ent : ByteArray} {p kind of : Int} {xs : List SItem} {h : Hp} {w w' : World} {E : Int} (hE : postE js ent p kind of xs = E) (h0 : E ≠ 0) (hp : Pt kSt 93 h b js) (hs : h.sub w) (hb : Below w.heap.size w w') :
    PostAns b js ent p kind of xs h w (.returned (.tuple #[.int .i64 0, .int .i64 E])) w' :=
  ⟨h, by unfold postSeq; rw [hE, if_neg h0], by unfold post; rw [hE, if_neg h0]; exact hp, ⟨hb.os, hb.tape, hb.output, hb.size, fun q hq _ => hb.block q hq, hs.of_below hb, fun _ hq => .inl hq⟩⟩
theorem post_calls (b : Nat) (js : List SJ) (ent : ByteArray) (per kind of : Int) (h : Hp) (w : World) (hs : h.sub w) (hp : Pt kSt 93 h b js) (hl : js.length ≤ 1000) (hll : ∀ x ∈ js, x.lines.length ≤ 1000000)
    (D : Option Addr) (cd : Nat) (xs : List SItem) (k : Hp) (ks : k.sub w) (sy : Sl kItem k D cd xs) :
    Calls Try.prog 39 #[.pointer (some ⟨b, 0, none⟩), .string ent, .int .i64 per, .int .i64 kind, .int .i64 of, .slice D xs.length cd] w (PostAns b js ent per kind of xs h w) := by
  obtain ⟨cs, hb, A, ca, rfl, ow⟩ := hp
  have hp : Pt kSt 93 h b js := ⟨_, hb, A, ca, rfl, ow⟩
  have hbw := hs b _ hb
  have hd := hs.del b
  have hc : w.cell? ⟨b, 0, none⟩ = some (.slice A js.length ca) := by rw [cell_of_row w b 0 _ _ _ hbw]; rfl
  have LC := fun (W : World) (hW : Below w.heap.size w W) => lines_calls b A ca js ent per kind of (h.del b) W (hd.of_below hW) ((hW.cell (World.block_lt_of_cell? w _ hc)).trans hc) ow.sl hll D cd xs k (ks.of_below hW) sy
  cases hE0 : ent.toList.isEmpty with
  | true =>
    have HE : Hid (postE js ent per kind of xs = 1) := by unfold Hid postE; rw [if_pos (by simp [argsBad, hE0])]
    have hE1 : ent.toList = [] := by simpa using hE0
    clear LC
    go_enter Try.func39, Try.ntmps39
    go_wp2
    go_ret2
    exact .no HE.out (by decide) hp hs (Below.refl _ _)
  | false =>
  cases hP0 : decide (0 ≤ per ∧ per ≤ 399) with
  | false =>
    have HE : Hid (postE js ent per kind of xs = 1) := by unfold Hid postE; rw [if_pos (by simp only [argsBad, hE0, hP0]; rfl)]
    have PC := fun W => perRight_calls per W
    rw [hP0] at PC
    clear LC hP0
    go_enter Try.func39, Try.ntmps39
    go_wp2_with (go_at_call 63; refine (PC _).mono ?_; rintro e w' ⟨rfl, rfl⟩)
    go_ret2
    exact .no HE.out (by decide) hp hs (Below.refl _ _)
  | true =>
  have PC := fun W => perRight_calls per W
  rw [hP0] at PC
  have hk : (kind = 1 ∧ of ≠ 0 ∨ kind ≠ 1 ∧ kind ≠ 2) ∨ (kind = 1 ∧ of = 0 ∨ kind = 2) := by omega
  rcases hk with hk | hk
  · have HE : Hid (postE js ent per kind of xs = 1) := by
      unfold Hid postE; rw [if_pos]
      simp only [argsBad, hE0, hP0]
      rcases hk with ⟨h1, h2⟩ | ⟨h1, h2⟩ <;> simp [h1, h2]
    clear LC hP0
    rcases hk with ⟨rfl, h2⟩ | ⟨h1, h2⟩
    · have h2b : (of != 0) = true := by simpa using h2
      clear h2
      go_enter Try.func39, Try.ntmps39
      go_wp2_with (go_at_call 63; refine (PC _).mono ?_; rintro e w' ⟨rfl, rfl⟩)
      go_ret2
      exact .no HE.out (by decide) hp hs (Below.refl _ _)
    · have h1b : (kind != 1) = true := by simpa using h1
      have h2b : (kind != 2) = true := by simpa using h2
      clear h1 h2
      go_enter Try.func39, Try.ntmps39
      go_wp2_with (go_at_call 63; refine (PC _).mono ?_; rintro e w' ⟨rfl, rfl⟩)
      go_ret2
      exact .no HE.out (by decide) hp hs (Below.refl _ _)
  have hA : argsBad ent per kind of = false := by
    simp only [argsBad, hE0, hP0]
    rcases hk with ⟨h1, h2⟩ | h1 <;> simp [*]
  have HP : Hid (postE js ent per kind of xs = if linesE js ent per kind of xs ≠ 0 then linesE js ent per kind of xs else if 200 ≤ js.length then 5 else if xs.any (overX js ent) = true then 6 else 0) := by
    unfold Hid postE; rw [if_neg (by rw [hA]; decide)]
  have GO : (kind = 1 ∧ of = 0 ∨ kind = 2) → True := fun _ => trivial
  clear hA hP0 GO
  by_cases hL : linesE js ent per kind of xs = 0
  · have hamt := Lib.hid (check_amts (linesE_zero hL))
    have hxlen := check_len (linesE_zero hL)
    rw [hL] at LC
    have HP2 : Hid (postE js ent per kind of xs = if 200 ≤ js.length then 5 else if xs.any (overX js ent) = true then 6 else 0) := by unfold Hid; rw [HP.out, hL]; rfl
    clear HP hL
    by_cases h2 : 200 ≤ js.length
    · have HE : Hid (postE js ent per kind of xs = 5) := by unfold Hid; rw [HP2.out, if_pos h2]
      clear HP2
      rcases hk with ⟨rfl, rfl⟩ | rfl
      all_goals
        go_enter Try.func39, Try.ntmps39
        go_wp2_with (go_at_call 63; refine (PC _).mono ?_; rintro e w' ⟨rfl, rfl⟩)
        refine (LC _ (Below.refl _ _)).mono ?_
        rintro e w1 ⟨rfl, b1⟩
        have hc1 := (b1.cell (p := ⟨b, 0, none⟩) (World.block_lt_of_cell? w _ hc)).trans hc
        go_wp2
        go_ret2
        exact .no HE.out (by decide) hp hs b1
    · have hbx := fun a : Int => balance_bd ent a 399 js
      have hov : Hid (∀ y ∈ xs.take 0, overX js ent y = false) := by unfold Hid; simp
      have h2b : decide (200 ≤ (js.length : Int)) = false := by simp; omega
      have BCr := fun (a : Int) (W : World) (hW : Below w.heap.size w W) => balance_calls b A ca js ent a 399 (h.del b) W (hd.of_below hW) ((hW.cell (World.block_lt_of_cell? w _ hc)).trans hc) ow.sl hl
      have m1 := sy.small
      rcases hk with ⟨rfl, rfl⟩ | rfl
      · go_enter Try.func39, Try.ntmps39
        go_wp2_with (go_at_call 63; refine (PC _).mono ?_; rintro e w' ⟨rfl, rfl⟩)
        refine (LC _ (Below.refl _ _)).mono ?_
        rintro e w1 ⟨rfl, b1⟩
        have hc1 := (b1.cell (p := ⟨b, 0, none⟩) (World.block_lt_of_cell? w _ hc)).trans hc
        go_wp2
        go_loopw [59] (fun i wr => ∃ (j : Nat), j ≤ xs.length ∧ i = .int .i64 j ∧ Hid (∀ y ∈ xs.take j, overX js ent y = false) ∧ Below w.heap.size w wr) (fun i _ => xs.length - (intOf i).toNat)
        case atStart => exact ⟨0, by omega, rfl, hov, b1⟩
        case round =>
          obtain ⟨j, hj, rfl, hn, hbr⟩ := hrel
          have hc2 := (hbr.cell (p := ⟨b, 0, none⟩) (World.block_lt_of_cell? w _ hc)).trans hc
          have hzr := hbr.size
          by_cases hlt : j < xs.length
          · obtain ⟨x, hx⟩ := some_of_lt hlt
            obtain ⟨b2, o2, rfl, c1, c2⟩ := sy.item (ks.of_below hbr) hx
            have i1 : (0 : Int) ≤ (j : Int) := by omega
            have i2 : (j : Int) < (xs.length : Int) := by omega
            have hX := hamt.out x (List.mem_of_getElem? hx.out)
            have hB := hbx x.kind
            obtain ⟨q1, q2⟩ : -4000000000000000 ≤ balance js ent x.kind 399 ∧ balance js ent x.kind 399 ≤ 4000000000000000 := by omega
            clear hB
            have HO : Hid (overX js ent x = !money (balance js ent x.kind 399 + x.amt)) := rfl
            have BCx := BCr x.kind
            generalize balance js ent x.kind 399 = v at *
            have hwp : IntKind.i64.wrap (v + x.amt) = v + x.amt := by rw [IntKind.wrap_i64]; omega
            cases hm : money (v + x.amt) with
            | true =>
              have HN : Hid (∀ y ∈ xs.take (j + 1), overX js ent y = false) := by
                intro y hy
                rw [take_next hx] at hy
                rcases List.mem_append.1 hy with hy | hy
                · exact hn.out y hy
                · simp at hy; subst hy; rw [HO.out, hm]; rfl
              clear HP2
              go_wp2
              go_region_held3 (fun w' => w'.cell? ⟨wr.heap.size, 0, none⟩ = some (.int .i64 x.kind) ∧ w'.cell? ⟨wr.heap.size, 1, none⟩ = some (.int .i64 x.amt))
                (first | go_keep | (go_split_ands; exact ⟨(b3.cell (by simp)).trans (by simp), (b3.cell (by simp)).trans (by simp)⟩))
                (first
                  | (go_at_call 42; refine (BCx _ (by repeat (first | exact hbr | apply Below.drew | refine Below.alloc ?_ (by first | (simp; done) | (simp; omega) | omega) _))).mono ?_; rintro e w3 ⟨rfl, b3⟩)
                  | (go_at_call 65; refine (money_calls _ _).mono ?_; rintro e w' ⟨rfl, rfl⟩))
              clear hwp
              go_wp2
              go_roundw
              case rel => exact ⟨j + 1, by omega, by go_num, HN, (by repeat (first | exact hbr | apply Below.drew | refine Below.alloc ?_ (by first | (simp; done) | (simp; omega) | omega) _ | refine Below.trans ?_ (b3.mono (by first | (simp; done) | (simp; omega) | omega))))⟩
              case measure => simp [intOf]; omega
            | false =>
              have HE : Hid (postE js ent per 1 0 xs = 6) := by
                unfold Hid
                rw [HP2.out, if_neg h2, if_pos]
                exact List.any_eq_true.2 ⟨x, List.mem_of_getElem? hx.out, by rw [HO.out, hm]; rfl⟩
              clear HP2
              go_wp2
              go_region_held3 (fun w' => w'.cell? ⟨wr.heap.size, 0, none⟩ = some (.int .i64 x.kind) ∧ w'.cell? ⟨wr.heap.size, 1, none⟩ = some (.int .i64 x.amt))
                (first | go_keep | (go_split_ands; exact ⟨(b3.cell (by simp)).trans (by simp), (b3.cell (by simp)).trans (by simp)⟩))
                (first
                  | (go_at_call 42; refine (BCx _ (by repeat (first | exact hbr | apply Below.drew | refine Below.alloc ?_ (by first | (simp; done) | (simp; omega) | omega) _))).mono ?_; rintro e w3 ⟨rfl, b3⟩)
                  | (go_at_call 65; refine (money_calls _ _).mono ?_; rintro e w' ⟨rfl, rfl⟩))
              clear hwp
              go_wp2
              go_ret2
              exact .no HE.out (by decide) hp hs (by repeat (first | exact hbr | apply Below.drew | refine Below.alloc ?_ (by first | (simp; done) | (simp; omega) | omega) _ | refine Below.trans ?_ (b3.mono (by first | (simp; done) | (simp; omega) | omega))))
          · have hany : xs.any (overX js ent) = false := by
              rw [List.any_eq_false]
              intro y hy
              rw [hn.out y (by rw [List.take_of_length_le (by omega)]; exact hy)]; decide
            have HE := Lib.hid (HP2.out.trans (by rw [if_neg h2, hany, if_neg (by decide)]))
            have OC := fun W (hW : Below w.heap.size w W) => own_calls ⟨js.length + 1, ent, per, 1, 0, xs⟩ D cd k W (ks.of_below hW) sy (show xs.length ≤ 1000000 by omega)
            clear HP2 hany
            have j1 : (0 : Int) ≤ (js.length : Int) := by omega
            have j2 : (js.length : Int) < 200 := by omega
            have hf2 : wr.frozen? ⟨b, 0, none⟩ = false := (hbr.frozen (p := ⟨b, 0, none⟩) (World.block_lt_of_cell? w _ hc)).trans (frozen_of_row w b 0 _ _ hbw)
            have hlb := Nat.lt_of_lt_of_le (World.block_lt_of_cell? w _ hc) hzr
            simp only at hlb
            go_wp2
            go_region_law (first
              | (refine step_app1 (hx := h2) (h := h.del b) (xs := js) (A := A) (cap := ca) (y := ⟨js.length + 1, ent, per, 1, 0, xs⟩) Try.underlying64 info_jou (by rfl) (by rfl) rfl js.length 1 (by rfl) (by rfl) rfl ow (hd.of_below (by repeat (first | exact hbr | apply Below.drew | refine Below.alloc ?_ (by first | (simp; done) | (simp; omega) | omega) _ | refine Below.trans ?_ (u2.below.mono (by first | (simp; done) | (simp; omega) | omega))))) (heap_new_at (by simp)) ⟨C2, cap2, rfl, o2⟩ (u2.sub.of_below (by repeat (first | exact Below.refl _ _ | apply Below.drew | refine Below.alloc ?_ (by simp) _))) (u2.apart (fun _ e => absurd rfl e) (hd.of_below (by repeat (first | exact hbr | apply Below.drew | refine Below.alloc ?_ (by first | (simp; done) | (simp; omega) | omega) _)))).symm (by omega) (by omega) ?_; intro C' cap' w3 h3 ho3 hu3; have hcv : w3.cell? ⟨b, 0, none⟩ = _ := hu3.cell ((cell_alloc (by omega)).trans hcw) (by simp [Hp.or, Hp.del_self, h2n.out]); have hfv : w3.frozen? ⟨b, 0, none⟩ = _ := (hu3.frozen (p := ⟨b, 0, none⟩) (by first | (simp; done) | (simp; omega) | omega) (by simp [Hp.or, Hp.del_self, h2n.out])).trans ((frozen_alloc (by omega)).trans hfw))
              | (rw [if_pos (by rfl)]; go_simp; refine (OC _ (by repeat (first | exact hbr | apply Below.drew | refine Below.alloc ?_ (by first | (simp; done) | (simp; omega) | omega) _))).mono ?_; rintro e w2 ⟨C2, cap2, h2, rfl, o2, u2⟩; dsimp only; have hz2 := u2.size; simp at hz2; have hcw : w2.cell? ⟨b, 0, none⟩ = _ := (u2.below.cell (p := ⟨b, 0, none⟩) (by simp; omega)).trans (by simpa using hc2); have hfw : w2.frozen? ⟨b, 0, none⟩ = _ := (u2.below.frozen (p := ⟨b, 0, none⟩) (by simp; omega)).trans (by simpa using hf2); have h2n : Hid (h2 b = none) := u2.new_none (by first | (simp; done) | (simp; omega) | omega); have hlb2 : b < w2.heap.size := Nat.lt_of_lt_of_le hlb hz2; have hca : ∀ o, (w2.alloc o).cell? ⟨b, 0, none⟩ = some (.slice A js.length ca) := fun o => (cell_alloc hlb2).trans hcw))
            all_goals
              go_wp2
            all_goals
              have U : Upd (h.del b) h3 w w3 := (Upd.eat ((u2.before (by repeat (first | exact Below.refl _ _ | apply Below.drew | refine Below.alloc ?_ (by simp) _))).after (by repeat (first | exact Below.refl _ _ | apply Below.drew | refine Below.alloc ?_ (by simp) _))) hu3).before hbr
              obtain ⟨UF, hn3⟩ := Upd.field (v := .slice C' (js.length + 1) cap') 0 hb hs (Hp.le_refl _) U
              clear hu3 u2
              go_ret2
              exact ⟨_, by unfold postSeq; rw [HE]; rfl, ⟨_, Hp.put_self, C', cap', by unfold post; rw [HE, if_pos rfl, List.length_append]; rfl, by rw [Hp.put_del hn3]; unfold post; rw [HE, if_pos rfl]; exact ho3⟩, UF⟩
      · go_enter Try.func39, Try.ntmps39
        go_wp2_with (go_at_call 63; refine (PC _).mono ?_; rintro e w' ⟨rfl, rfl⟩)
        refine (LC _ (Below.refl _ _)).mono ?_
        rintro e w1 ⟨rfl, b1⟩
        have hc1 := (b1.cell (p := ⟨b, 0, none⟩) (World.block_lt_of_cell? w _ hc)).trans hc
        go_wp2
        go_loopw [59] (fun i wr => ∃ (j : Nat), j ≤ xs.length ∧ i = .int .i64 j ∧ Hid (∀ y ∈ xs.take j, overX js ent y = false) ∧ Below w.heap.size w wr) (fun i _ => xs.length - (intOf i).toNat)
        case atStart => exact ⟨0, by omega, rfl, hov, b1⟩
        case round =>
          obtain ⟨j, hj, rfl, hn, hbr⟩ := hrel
          have hc2 := (hbr.cell (p := ⟨b, 0, none⟩) (World.block_lt_of_cell? w _ hc)).trans hc
          have hzr := hbr.size
          by_cases hlt : j < xs.length
          · obtain ⟨x, hx⟩ := some_of_lt hlt
            obtain ⟨b2, o2, rfl, c1, c2⟩ := sy.item (ks.of_below hbr) hx
            have i1 : (0 : Int) ≤ (j : Int) := by omega
            have i2 : (j : Int) < (xs.length : Int) := by omega
            have hX := hamt.out x (List.mem_of_getElem? hx.out)
            have hB := hbx x.kind
            obtain ⟨q1, q2⟩ : -4000000000000000 ≤ balance js ent x.kind 399 ∧ balance js ent x.kind 399 ≤ 4000000000000000 := by omega
            clear hB
            have HO : Hid (overX js ent x = !money (balance js ent x.kind 399 + x.amt)) := rfl
            have BCx := BCr x.kind
            generalize balance js ent x.kind 399 = v at *
            have hwp : IntKind.i64.wrap (v + x.amt) = v + x.amt := by rw [IntKind.wrap_i64]; omega
            cases hm : money (v + x.amt) with
            | true =>
              have HN : Hid (∀ y ∈ xs.take (j + 1), overX js ent y = false) := by
                intro y hy
                rw [take_next hx] at hy
                rcases List.mem_append.1 hy with hy | hy
                · exact hn.out y hy
                · simp at hy; subst hy; rw [HO.out, hm]; rfl
              clear HP2
              go_wp2
              go_region_held3 (fun w' => w'.cell? ⟨wr.heap.size, 0, none⟩ = some (.int .i64 x.kind) ∧ w'.cell? ⟨wr.heap.size, 1, none⟩ = some (.int .i64 x.amt))
                (first | go_keep | (go_split_ands; exact ⟨(b3.cell (by simp)).trans (by simp), (b3.cell (by simp)).trans (by simp)⟩))
                (first
                  | (go_at_call 42; refine (BCx _ (by repeat (first | exact hbr | apply Below.drew | refine Below.alloc ?_ (by first | (simp; done) | (simp; omega) | omega) _))).mono ?_; rintro e w3 ⟨rfl, b3⟩)
                  | (go_at_call 65; refine (money_calls _ _).mono ?_; rintro e w' ⟨rfl, rfl⟩))
              clear hwp
              go_wp2
              go_roundw
              case rel => exact ⟨j + 1, by omega, by go_num, HN, (by repeat (first | exact hbr | apply Below.drew | refine Below.alloc ?_ (by first | (simp; done) | (simp; omega) | omega) _ | refine Below.trans ?_ (b3.mono (by first | (simp; done) | (simp; omega) | omega))))⟩
              case measure => simp [intOf]; omega
            | false =>
              have HE : Hid (postE js ent per 2 of xs = 6) := by
                unfold Hid
                rw [HP2.out, if_neg h2, if_pos]
                exact List.any_eq_true.2 ⟨x, List.mem_of_getElem? hx.out, by rw [HO.out, hm]; rfl⟩
              clear HP2
              go_wp2
              go_region_held3 (fun w' => w'.cell? ⟨wr.heap.size, 0, none⟩ = some (.int .i64 x.kind) ∧ w'.cell? ⟨wr.heap.size, 1, none⟩ = some (.int .i64 x.amt))
                (first | go_keep | (go_split_ands; exact ⟨(b3.cell (by simp)).trans (by simp), (b3.cell (by simp)).trans (by simp)⟩))
                (first
                  | (go_at_call 42; refine (BCx _ (by repeat (first | exact hbr | apply Below.drew | refine Below.alloc ?_ (by first | (simp; done) | (simp; omega) | omega) _))).mono ?_; rintro e w3 ⟨rfl, b3⟩)
                  | (go_at_call 65; refine (money_calls _ _).mono ?_; rintro e w' ⟨rfl, rfl⟩))
              clear hwp
              go_wp2
              go_ret2
              exact .no HE.out (by decide) hp hs (by repeat (first | exact hbr | apply Below.drew | refine Below.alloc ?_ (by first | (simp; done) | (simp; omega) | omega) _ | refine Below.trans ?_ (b3.mono (by first | (simp; done) | (simp; omega) | omega))))
          · have hany : xs.any (overX js ent) = false := by
              rw [List.any_eq_false]
              intro y hy
              rw [hn.out y (by rw [List.take_of_length_le (by omega)]; exact hy)]; decide
            have HE := Lib.hid (HP2.out.trans (by rw [if_neg h2, hany, if_neg (by decide)]))
            have OC := fun W (hW : Below w.heap.size w W) => own_calls ⟨js.length + 1, ent, per, 2, of, xs⟩ D cd k W (ks.of_below hW) sy (show xs.length ≤ 1000000 by omega)
            clear HP2 hany
            have j1 : (0 : Int) ≤ (js.length : Int) := by omega
            have j2 : (js.length : Int) < 200 := by omega
            have hf2 : wr.frozen? ⟨b, 0, none⟩ = false := (hbr.frozen (p := ⟨b, 0, none⟩) (World.block_lt_of_cell? w _ hc)).trans (frozen_of_row w b 0 _ _ hbw)
            have hlb := Nat.lt_of_lt_of_le (World.block_lt_of_cell? w _ hc) hzr
            simp only at hlb
            go_wp2
            go_region_law (first
              | (refine step_app1 (hx := h2) (h := h.del b) (xs := js) (A := A) (cap := ca) (y := ⟨js.length + 1, ent, per, 2, of, xs⟩) Try.underlying64 info_jou (by rfl) (by rfl) rfl js.length 1 (by rfl) (by rfl) rfl ow (hd.of_below (by repeat (first | exact hbr | apply Below.drew | refine Below.alloc ?_ (by first | (simp; done) | (simp; omega) | omega) _ | refine Below.trans ?_ (u2.below.mono (by first | (simp; done) | (simp; omega) | omega))))) (heap_new_at (by simp)) ⟨C2, cap2, rfl, o2⟩ (u2.sub.of_below (by repeat (first | exact Below.refl _ _ | apply Below.drew | refine Below.alloc ?_ (by simp) _))) (u2.apart (fun _ e => absurd rfl e) (hd.of_below (by repeat (first | exact hbr | apply Below.drew | refine Below.alloc ?_ (by first | (simp; done) | (simp; omega) | omega) _)))).symm (by omega) (by omega) ?_; intro C' cap' w3 h3 ho3 hu3; have hcv : w3.cell? ⟨b, 0, none⟩ = _ := hu3.cell ((cell_alloc (by omega)).trans hcw) (by simp [Hp.or, Hp.del_self, h2n.out]); have hfv : w3.frozen? ⟨b, 0, none⟩ = _ := (hu3.frozen (p := ⟨b, 0, none⟩) (by first | (simp; done) | (simp; omega) | omega) (by simp [Hp.or, Hp.del_self, h2n.out])).trans ((frozen_alloc (by omega)).trans hfw))
              | (rw [if_pos (by rfl)]; go_simp; refine (OC _ (by repeat (first | exact hbr | apply Below.drew | refine Below.alloc ?_ (by first | (simp; done) | (simp; omega) | omega) _))).mono ?_; rintro e w2 ⟨C2, cap2, h2, rfl, o2, u2⟩; dsimp only; have hz2 := u2.size; simp at hz2; have hcw : w2.cell? ⟨b, 0, none⟩ = _ := (u2.below.cell (p := ⟨b, 0, none⟩) (by simp; omega)).trans (by simpa using hc2); have hfw : w2.frozen? ⟨b, 0, none⟩ = _ := (u2.below.frozen (p := ⟨b, 0, none⟩) (by simp; omega)).trans (by simpa using hf2); have h2n : Hid (h2 b = none) := u2.new_none (by first | (simp; done) | (simp; omega) | omega); have hlb2 : b < w2.heap.size := Nat.lt_of_lt_of_le hlb hz2; have hca : ∀ o, (w2.alloc o).cell? ⟨b, 0, none⟩ = some (.slice A js.length ca) := fun o => (cell_alloc hlb2).trans hcw))
            all_goals
              go_wp2
            all_goals
              have U : Upd (h.del b) h3 w w3 := (Upd.eat ((u2.before (by repeat (first | exact Below.refl _ _ | apply Below.drew | refine Below.alloc ?_ (by simp) _))).after (by repeat (first | exact Below.refl _ _ | apply Below.drew | refine Below.alloc ?_ (by simp) _))) hu3).before hbr
              obtain ⟨UF, hn3⟩ := Upd.field (v := .slice C' (js.length + 1) cap') 0 hb hs (Hp.le_refl _) U
              clear hu3 u2
              go_ret2
              exact ⟨_, by unfold postSeq; rw [HE]; rfl, ⟨_, Hp.put_self, C', cap', by unfold post; rw [HE, if_pos rfl, List.length_append]; rfl, by rw [Hp.put_del hn3]; unfold post; rw [HE, if_pos rfl]; exact ho3⟩, UF⟩
  · have hb0 : (linesE js ent per kind of xs != 0) = true := by simpa using hL
    have HE : Hid (postE js ent per kind of xs = linesE js ent per kind of xs) := by unfold Hid; rw [HP.out, if_pos hL]
    have HL : Hid (linesE js ent per kind of xs ≠ 0) := hL
    clear HP hL
    rcases hk with ⟨rfl, rfl⟩ | rfl
    all_goals
      go_enter Try.func39, Try.ntmps39
      go_wp2_with (go_at_call 63; refine (PC _).mono ?_; rintro e w' ⟨rfl, rfl⟩)
      refine (LC _ (Below.refl _ _)).mono ?_
      rintro e w1 ⟨rfl, b1⟩
      go_wp2
      go_ret2
      exact .no HE.out HL.out hp hs b1
end Go.Proofs.Ytnpnndifhlihhaa
end
section
/- The memory that a body holds: parts of its own, apart from each other, all made since it began. No program is named here. -/
namespace Go.Sl
open Go Go.RowKit
/-- Of the world w0 nothing has turned; the parts l were made since, and are apart. -/
structure Env (w0 w : World) (l : List Hp) : Prop where
  own : Own w l
  fr : ∀ h ∈ l, ∀ q, h q ≠ Option.none → w0.heap.size ≤ q
  low : Below w0.heap.size w0 w
section
variable {w0 w w1 : World} {l : List Hp} {h h' : Hp}
theorem Env.start (w : World) : Env w w [] := ⟨trivial, fun _ e => absurd e (by simp), Below.refl _ _⟩
theorem Env.below (E : Env w0 w l) (b : Below w.heap.size w w1) : Env w0 w1 l := ⟨E.own.below b, E.fr, E.low.trans (b.mono E.low.size)⟩
theorem Own.snoc {w : World} {h' : Hp} (s : h'.sub w) : ∀ {l : List Hp}, Own w l → (∀ k ∈ l, k.apart h') → Own w (l ++ [h'])
  | [], _, _ => ⟨s, fun _ e => absurd e (by simp), trivial⟩
  | k :: l, o, a => ⟨o.1, fun q hq => by
      rcases List.mem_append.1 hq with hq | hq
      · exact o.2.1 q hq
      · simp at hq; subst hq; exact a k (by simp), o.2.2.snoc s fun q hq => a q (by simp [hq])⟩
theorem Env.new (E : Env w0 w l) (u : Upd Hp.none h' w w1) : Env w0 w1 (l ++ [h']) :=
  ⟨(E.own.below u.below).snoc u.sub fun k hk => (u.apart (fun _ e => absurd rfl e) (E.own.mem k hk)).symm, fun k hk q hq => by
    rcases List.mem_append.1 hk with hk | hk
    · exact E.fr k hk q hq
    · simp at hk; subst hk
      rcases u.dom q hq with e | e
      · exact absurd rfl e
      · exact Nat.le_trans E.low.size e, E.low.trans (u.below.mono E.low.size)⟩
theorem Env.upd (E : Env w0 w l) (i : Nat) (hi : l[i]? = some h) (u : Upd h h' w w1) : Env w0 w1 (l.set i h') :=
  ⟨E.own.upd u i hi, fun k hk q hq => by
    rcases List.mem_or_eq_of_mem_set hk with hk | rfl
    · exact E.fr k hk q hq
    · rcases u.dom q hq with e | e
      · exact E.fr h (List.mem_of_getElem? hi) q e
      · exact Nat.le_trans E.low.size e,
   ⟨u.os.trans E.low.os, u.tape.trans E.low.tape, u.output.trans E.low.output, Nat.le_trans E.low.size u.size, fun q hq => by
    refine (u.keep q (Nat.lt_of_lt_of_le hq E.low.size) ?_).trans (E.low.block q hq)
    cases hh : h q with
    | none => rfl
    | some o => have := E.fr h (List.mem_of_getElem? hi) q (by simp [hh]); omega⟩⟩
theorem Env.sub (E : Env w0 w l) (i : Nat) (hi : l[i]? = some h) : h.sub w := E.own.get i h hi
theorem Env.drop (E : Env w0 w l) (i : Nat) : Env w0 w (l.eraseIdx i) := ⟨E.own.erase i, fun k hk => E.fr k (List.mem_of_mem_eraseIdx hk), E.low⟩
theorem Env.arg (E : Env w0 w l) {k : Hp} (s : k.sub w0) : k.sub w := s.of_below E.low
/-- A new block. -/
theorem Upd.newBlock (w : World) (o : Obj) : Upd Hp.none (Hp.one w.heap.size o) w (w.alloc o) :=
  ⟨rfl, rfl, rfl, by simp, fun q hq _ => heap_old_at hq, Hp.one_sub (heap_new_at rfl), fun q hq => by
    right
    simp only [Hp.one] at hq
    split at hq
    · omega
    · exact absurd rfl hq⟩
theorem Hp.sub.free {h : Hp} {w : World} (s : h.sub w) {b : Nat} (hb : w.heap.size ≤ b) : h b = Option.none := by
  cases hh : h b with
  | none => rfl
  | some o => have := s.lt (b := b) (by simp [hh]); omega
/-- A new block that holds what was made before. -/
theorem Upd.put {o : Obj} (u : Upd Hp.none h' w w1) : Upd Hp.none (h'.put w1.heap.size o) w (w1.alloc o) :=
  ⟨u.os, u.tape, u.output, by simp; exact Nat.le_trans u.size (Nat.le_succ _), fun q hq hn => (heap_old_at (Nat.lt_of_lt_of_le hq u.size)).trans (u.keep q hq hn), Hp.put_sub (u.sub.of_below ((Below.refl _ _).alloc (Nat.le_refl _) _)) (heap_new_at rfl), fun q hq => by
    simp only [Hp.put] at hq
    split at hq
    · right; have := u.size; omega
    · exact u.dom q hq⟩
theorem Env.alloc (E : Env w0 w l) (o : Obj) : Env w0 (w.alloc o) (l ++ [Hp.one w.heap.size o]) := E.new (Upd.newBlock w o)
theorem Env.drew (E : Env w0 w l) : Env w0 w.drew l := E.below ((Below.refl _ _).drew)
theorem flatMap_len {α : Type} {size : Nat} {cells : α → List Value} (hl : ∀ x, (cells x).length = size) : ∀ xs : List α, (xs.flatMap cells).length = xs.length * size
  | [] => by simp
  | y :: ys => by simp only [List.flatMap_cons, List.length_append, hl, flatMap_len hl ys, List.length_cons, Nat.add_mul, Nat.one_mul]; omega
/-- A literal of flat elements in a new block, owned. -/
theorem Ow.lit {α : Type} {size : Nat} {cells : α → List Value} {pos : 0 < size} {hl : ∀ x, (cells x).length = size} {h1 : ∀ x, ∀ u ∈ cells x, u.oneCell' = true} {h : Hp} {b : Nat} {t : TypeId} {xs : List α}
    (hb : h b = some (.cells (xs.flatMap cells).toArray t (0, 0))) (hm : xs.length ≤ maxLen) : Ow (Kd.flat size cells pos hl h1) h (some ⟨b, 0, .none⟩) xs.length xs :=
  ⟨Nat.le_refl _, hm, (fun e => (nomatch e)), fun ad e _ => by
    cases e
    refine ⟨b, 0, _, t, rfl, hb, ?_, fun i x hx => ⟨cells x, rfl, fun j u hu => ?_⟩⟩
    · have := flatMap_len hl xs
      simp only [Kd.flat, List.size_toArray, this]; omega
    · rw [Nat.zero_add, List.getElem?_toArray]; exact flatMap_get hl xs i x hx j u hu⟩
/-- The rest of a part turns, one block stands. -/
theorem Upd.rest {k' : Hp} {b : Nat} {o : Obj} (hb : h b = some o) (s : h.sub w) (u : Upd (h.del b) k' w w1) : Upd h (k'.put b o) w w1 ∧ k' b = .none := by
  have hlt := s.lt (b := b) (by simp [hb])
  have hk : k' b = .none := by
    cases hh : k' b with
    | none => rfl
    | some q =>
      rcases u.dom b (by simp [hh]) with e | e
      · exact absurd Hp.del_self e
      · omega
  refine ⟨⟨u.os, u.tape, u.output, u.size, fun q hq hn => u.keep q hq (by simp [Hp.del, hn]), fun q o' e => ?_, fun q e => ?_⟩, hk⟩
  · simp only [Hp.put] at e
    split at e
    · rename_i hq; cases e; rw [hq]; exact (u.keep b hlt Hp.del_self).trans (s b _ hb)
    · exact u.sub q o' e
  · simp only [Hp.put] at e
    split at e
    · rename_i hq; left; rw [hq, hb]; simp
    · rcases u.dom q e with h1 | h1
      · left; intro h0; exact h1 (by simp [Hp.del, h0])
      · exact .inr h1
theorem Own.apart_of {w : World} : ∀ {l : List Hp}, Own w l → ∀ {i j : Nat} {h k : Hp}, l[i]? = some h → l[j]? = some k → i ≠ j → h.apart k
  | [], _, i, j, h, k, e, _, _ => by simp at e
  | a :: l, o, 0, 0, h, k, _, _, n => absurd rfl n
  | a :: l, o, 0, j + 1, h, k, e1, e2, _ => by simp at e1 e2; subst e1; exact o.2.1 k (List.mem_of_getElem? e2)
  | a :: l, o, i + 1, 0, h, k, e1, e2, _ => by simp at e1 e2; subst e2; exact (o.2.1 h (List.mem_of_getElem? e1)).symm
  | a :: l, o, i + 1, j + 1, h, k, e1, e2, n => o.2.2.apart_of (i := i) (j := j) (by simpa using e1) (by simpa using e2) (by omega)
/-- A part is written into, and not told any more. -/
theorem Env.scratch (E : Env w0 w l) (i : Nat) (hi : l[i]? = some h) {b j : Nat} {v : Value} (hb : h b ≠ .none) : Env w0 (w.setCell ⟨b, j, .none⟩ v) (l.eraseIdx i) := by
  have D := E.drop i
  have hB : w0.heap.size ≤ b := E.fr h (List.mem_of_getElem? hi) b hb
  have hn : ∀ k ∈ l.eraseIdx i, k b = .none := fun k hk => by
    obtain ⟨m, hm⟩ := List.mem_iff_getElem?.1 hk
    rw [List.getElem?_eraseIdx] at hm
    split at hm
    · exact E.own.apart_of hi hm (by omega) b hb
    · exact E.own.apart_of hi hm (by omega) b hb
  have G : Below b w (w.setCell ⟨b, j, .none⟩ v) := (Below.refl b w).setCell (Nat.le_refl _) v
  have S : (w.setCell ⟨b, j, .none⟩ v).heap.size = w.heap.size := by simp
  refine ⟨?_, D.fr, D.low.setCell hB v⟩
  have key : ∀ l : List Hp, Own w l → (∀ k ∈ l, k b = .none) → Own (w.setCell ⟨b, j, .none⟩ v) l := by
    intro l
    induction l with
    | nil => exact fun _ _ => trivial
    | cons k l ih =>
      intro o hk
      refine ⟨fun q o' e => ?_, o.2.1, ih o.2.2 fun x hx => hk x (by simp [hx])⟩
      rw [Below.heap_setCell w ⟨b, j, .none⟩ v q (fun hq => by have := hk k (by simp); rw [show q = b from hq, this] at e; cases e)]
      exact o.1 q o' e
  exact key _ D.own hn
end
end Go.Sl
end
section
/- The walks of store.New and store.Clone. -/
namespace Go.Proofs.Ytnpnndifhlihhaa
open Go.RowKit Go.Sl
set_option maxHeartbeats 1000000
set_option maxRecDepth 100000
theorem storeNew_calls (w : World) : Calls Try.prog 38 #[] w fun e w' => ∃ h b, e = .returned (.pointer (some ⟨b, 0, none⟩)) ∧ Pt kSt 93 h b [] ∧ Upd Hp.none h w w' := by
  go_enter Try.func38, Try.ntmps38
  go_wp2
  go_ret
  exact ⟨_, _, rfl, ⟨_, Hp.one_self _ _, none, 0, rfl, Ow.none _ _⟩, Upd.newBlock w _⟩
theorem storeClone_calls (p : Nat) (A : Option Addr) (ca : Nat) (js : List SJ) (h : Hp) (w : World) (hs : h.sub w) (hc : w.cell? ⟨p, 0, none⟩ = some (.slice A js.length ca)) (sx : Sl kJ h A ca js) (hl : js.length ≤ 1000000) (hll : ∀ x ∈ js, x.lines.length ≤ 1000000) :
    Calls Try.prog 44 #[.pointer (some ⟨p, 0, none⟩)] w fun e w' => ∃ h b, e = .returned (.pointer (some ⟨b, 0, none⟩)) ∧ Pt kSt 93 h b js ∧ Upd Hp.none h w w' := by
  go_enter Try.func44, Try.ntmps44
  go_wp2_with fail
  refine (journals_calls p A ca js h w hs hc sx hl hll).mono ?_
  rintro e w1 ⟨C, cap, h1, rfl, o1, u1⟩
  go_wp2
  go_ret
  exact ⟨_, _, rfl, ⟨_, Hp.put_self, C, cap, rfl, by rw [Hp.put_del (u1.sub.free (Nat.le_refl _))]; exact o1⟩, u1.put⟩
/-- What the store's pointer gives to readers. -/
theorem _root_.Go.Sl.Pt.store {T : TypeId} {h : Hp} {b : Nat} {js : List SJ} {w : World} (p : Pt kSt T h b js) (s : h.sub w) : ∃ A ca, w.cell? ⟨b, 0, none⟩ = some (.slice A js.length ca) ∧ Sl kJ h A ca js := by
  obtain ⟨cs, hb, A, ca, rfl, ow⟩ := p
  exact ⟨A, ca, by rw [cell_of_row w b 0 _ _ _ (s b _ hb)]; rfl, ow.sl.mono (Hp.del_le _ _)⟩
/-- The readers, at a pointer. -/
theorem balance_at {b : Nat} {js : List SJ} {h : Hp} {w : World} (hp : Pt kSt 93 h b js) (hs : h.sub w) (hl : js.length ≤ 1000) (ent : ByteArray) (a upto : Int) :
    Calls Try.prog 42 #[.pointer (some ⟨b, 0, none⟩), .string ent, .int .i64 a, .int .i64 upto] w fun e w' => e = .returned (.int .i64 (balance js ent a upto)) ∧ Below w.heap.size w w' := by
  obtain ⟨A, ca, hc, sx⟩ := hp.store hs
  exact balance_calls b A ca js ent a upto h w hs hc sx hl
theorem journals_at {b : Nat} {js : List SJ} {h : Hp} {w : World} (hp : Pt kSt 93 h b js) (hs : h.sub w) (hl : js.length ≤ 1000) (hll : ∀ x ∈ js, x.lines.length ≤ 1000000) :
    Calls Try.prog 40 #[.pointer (some ⟨b, 0, none⟩)] w fun e w' => ∃ C cap h', e = .returned (.slice C js.length cap) ∧ Ow kJ h' C cap js ∧ Upd Hp.none h' w w' := by
  obtain ⟨A, ca, hc, sx⟩ := hp.store hs
  exact journals_calls b A ca js h w hs hc sx (by omega) hll
theorem clone_at {b : Nat} {js : List SJ} {h : Hp} {w : World} (hp : Pt kSt 93 h b js) (hs : h.sub w) (hl : js.length ≤ 1000) (hll : ∀ x ∈ js, x.lines.length ≤ 1000000) :
    Calls Try.prog 44 #[.pointer (some ⟨b, 0, none⟩)] w fun e w' => ∃ h b, e = .returned (.pointer (some ⟨b, 0, none⟩)) ∧ Pt kSt 93 h b js ∧ Upd Hp.none h w w' := by
  obtain ⟨A, ca, hc, sx⟩ := hp.store hs
  exact storeClone_calls b A ca js h w hs hc sx (by omega) hll
end Go.Proofs.Ytnpnndifhlihhaa
end
section
/- The walk of store.Trial. -/
namespace Go.Sl
/-- Accounts whose sums are not 0, of the first n. -/
def trialTo (f : Int → Int) : Nat → List SItem
  | 0 => []
  | n + 1 => trialTo f n ++ if f (n + 1) = 0 then [] else [⟨n + 1, f (n + 1)⟩]
theorem trialTo_len (f : Int → Int) : ∀ n, (trialTo f n).length ≤ n
  | 0 => by simp [trialTo]
  | n + 1 => by
    have := trialTo_len f n
    simp only [trialTo, List.length_append]
    split <;> simp <;> omega
theorem trialTo_no {f : Int → Int} {n : Nat} (h : f (n + 1) = 0) : trialTo f (n + 1) = trialTo f n := by simp [trialTo, h]
theorem trialTo_yes {f : Int → Int} {n : Nat} (h : f (n + 1) ≠ 0) : trialTo f (n + 1) = trialTo f n ++ [⟨n + 1, f (n + 1)⟩] := by simp [trialTo, h]
theorem mergeTo_trial (xs : List SItem) : ∀ n, mergeTo xs n = trialTo (fun a => accSum a xs) n
  | 0 => rfl
  | n + 1 => by simp only [mergeTo, trialTo, mergeTo_trial xs n]
def trial (js : List SJ) (ent : ByteArray) (upto : Int) : List SItem := trialTo (fun a => balance js ent a upto) 7
end Go.Sl
namespace Go.Proofs.Ytnpnndifhlihhaa
open Go.RowKit Go.Sl
set_option maxHeartbeats 1000000
set_option maxRecDepth 100000
theorem trial_calls (p : Nat) (A : Option Addr) (ca : Nat) (js : List SJ) (ent : ByteArray) (upto : Int) (h : Hp) (w : World) (hs : h.sub w) (hc : w.cell? ⟨p, 0, none⟩ = some (.slice A js.length ca)) (sx : Sl kJ h A ca js) (hl : js.length ≤ 1000) :
    Calls Try.prog 43 #[.pointer (some ⟨p, 0, none⟩), .string ent, .int .i64 upto] w fun e w' => ∃ C cap h', e = .returned (.slice C (trial js ent upto).length cap) ∧ Ow kItem h' C cap (trial js ent upto) ∧ Upd Hp.none h' w w' := by
  obtain ⟨i0, hi, hz0, hz1, hz2⟩ := info_parts Try.infoLine
  have hp := World.block_lt_of_cell? w _ hc
  have BC := fun (a : Int) (W : World) (hW : Below w.heap.size w W) => balance_calls p A ca js ent a upto h W (hs.of_below hW) ((hW.cell hp).trans hc) sx hl
  obtain ⟨F, hF⟩ : ∃ F : Int → Int, F = fun a => balance js ent a upto := ⟨_, rfl⟩
  have BC' : ∀ (a : Int) (W : World), Below w.heap.size w W → Calls Try.prog 42 #[.pointer (some ⟨p, 0, none⟩), .string ent, .int .i64 a, .int .i64 upto] W fun e w' => e = .returned (.int .i64 (F a)) ∧ Below W.heap.size W w' := fun a W hW => by
    rw [hF]; exact BC a W hW
  have HF : Hid (trial js ent upto = trialTo F 7) := by unfold Hid trial; rw [hF]
  clear BC hF
  go_enter Try.func43, Try.ntmps43
  go_wp2_with fail
  refine (accounts_calls _).mono ?_
  rintro e w2 ⟨D, dcap, hd, rfl, od, u2⟩
  go_wp2
  go_loopw [7, 13] (fun v i wr => ∃ (j cap n : Nat) (C : Option Addr) (h' : Hp), j ≤ 7 ∧ i = .int .i64 j ∧ v = .slice C n cap ∧ Hid (n = (trialTo F j).length) ∧ Hid (Ow kItem h' C cap (trialTo F j)) ∧ Hid (h'.apart hd) ∧ hd.sub wr ∧ Upd Hp.none h' w wr) (fun _ i _ => 7 - (intOf i).toNat)
  case atStart => exact ⟨0, 0, 0, none, Hp.none, by omega, rfl, rfl, rfl, Ow.none _ _, fun _ e => absurd rfl e, u2.sub, Upd.of_below u2.below⟩
  case round =>
    obtain ⟨j, cap, n, C, h', hj, rfl, rfl, hn, ho, ha, sd, hu⟩ := hrel
    by_cases hlt : j < 7
    · have hx : Hid (([1, 2, 3, 4, 5, 6, 7] : List Int)[j]? = some ((j : Int) + 1)) := acct_get hlt
      obtain ⟨b1', o1, e1, c1⟩ := od.sl.int sd hx
      subst e1
      have i1 : (0 : Int) ≤ (j : Int) := by omega
      have i2 : (j : Int) < 7 := by omega
      have hlen := trialTo_len F j
      have hn2 : n ≤ 7 := by rw [hn.out]; omega
      have D := BC' ((j : Int) + 1) wr hu.below
      generalize hg : F ((j : Int) + 1) = s at *
      by_cases h0 : s = 0
      · have hb : (s != 0) = false := by simpa using h0
        have HT : Hid (trialTo F (j + 1) = trialTo F j) := trialTo_no (by rw [hg]; exact h0)
        clear h0 hg
        go_wp2_with (go_at_call 42; refine D.mono ?_; rintro e w3 ⟨rfl, b3⟩)
        go_roundw
        case rel => exact ⟨j + 1, cap, n, C, h', by omega, by go_num, rfl, by rw [HT.out]; exact hn, by rw [HT.out]; exact ho, ha, sd.of_below b3, hu.after b3⟩
        case measure => simp [intOf]; omega
      · have hb : (s != 0) = true := by simpa using h0
        have HT : Hid (trialTo F (j + 1) = trialTo F j ++ [⟨(j : Int) + 1, s⟩]) := by unfold Hid; rw [← hg]; exact trialTo_yes (by rw [hg]; exact h0)
        clear h0 hg
        go_wp2_with (first
          | (go_at_call 42; refine D.mono ?_; rintro e w3 ⟨rfl, b3⟩)
          | (at_builtin; refine wpList_append (k := kItem) (h := h') (hx := Hp.none) (A := C) (cap := cap) (B := some ⟨w3.heap.size, 0, none⟩) (xs := trialTo F j) (ys := [⟨(j : Int) + 1, s⟩]) (by rfl) (.tmp 24) (.tmp 28) 36 (by rfl) 39 i0 (.agg #[.int .i64 0, .int .i64 0]) Try.underlying36 hi hz0 hz1 (by rfl) 16 hz2 n 1 1 hn.out.symm rfl (by rfl) (by rfl) ho.out ((hu.sub.of_below b3).of_below (by repeat (first | exact Below.refl _ _ | apply Below.drew | refine Below.alloc ?_ (by simp) _))) (Src.new (heap_new_at (by simp)) rfl) (Hp.none_sub _) (Hp.apart_none _) (by unfold maxLen; omega) (by omega) ?_; intro C' cap' w4 h1 ho1 hu1))
        go_roundw
        case rel =>
          have bb : Below w3.heap.size w3 (w3.alloc (.cells #[.int .i64 ((j : Int) + 1), .int .i64 s] 39)) := (Below.refl _ _).alloc (Nat.le_refl _) _
          have hh : h'.apart hd := ha.out
          exact ⟨j + 1, cap', n + 1, C', h1, by omega, by go_num, rfl, by rw [HT.out]; unfold Hid; rw [List.length_append, ← hn.out]; rfl, by rw [HT.out]; exact ho1, hu1.flat.apart hh ((sd.of_below b3).of_below bb), hu1.flat.keeps hh ((sd.of_below b3).of_below bb), (hu.after b3).trans (hu1.flat.before bb)⟩
        case measure => simp [intOf]; omega
    · obtain rfl : j = 7 := by omega
      go_wp2
      go_ret
      exact ⟨C, cap, h', by rw [hn.out, HF.out]; rfl, by rw [HF.out]; exact ho.out, hu⟩
end Go.Proofs.Ytnpnndifhlihhaa
end
section
/- The store's functions, in a body's own memory. -/
namespace Go.Sl
/-- What holds of all stores. -/
structure GoodS (js : List SJ) : Prop where
  len : js.length ≤ 200
  lines : ∀ x ∈ js, x.lines.length ≤ 20
theorem GoodS.nil : GoodS [] := ⟨by simp, by simp⟩
theorem postE_len {js : List SJ} {ent : ByteArray} {p kind of : Int} {xs : List SItem} (h : postE js ent p kind of xs = 0) : js.length < 200 ∧ checkE xs = 0 := by
  unfold postE at h
  split at h
  · cases h
  · split at h
    · contradiction
    · rename_i h2
      have h3 : linesE js ent p kind of xs = 0 := by simpa using h2
      split at h
      · cases h
      · exact ⟨by omega, Proofs.Ytnpnndifhlihhaa.linesE_zero h3⟩
theorem post_ok {js : List SJ} {ent : ByteArray} {p kind of : Int} {xs : List SItem} (h : postE js ent p kind of xs = 0) : post js ent p kind of xs = js ++ [⟨js.length + 1, ent, p, kind, of, xs⟩] := by unfold post; rw [if_pos h]
theorem post_no {js : List SJ} {ent : ByteArray} {p kind of : Int} {xs : List SItem} (h : postE js ent p kind of xs ≠ 0) : post js ent p kind of xs = js := by unfold post; rw [if_neg h]
theorem GoodS.post {js : List SJ} {ent : ByteArray} {p kind of : Int} {xs : List SItem} (g : GoodS js) : GoodS (post js ent p kind of xs) := by
  by_cases h : postE js ent p kind of xs = 0
  · rw [post_ok h]
    have h2 := postE_len h
    have h3 := Proofs.Ytnpnndifhlihhaa.check_len h2.2
    refine ⟨by simp; omega, fun x hx => ?_⟩
    rcases List.mem_append.1 hx with hx | hx
    · exact g.lines x hx
    · simp at hx; subst hx; exact h3
  · rw [post_no h]; exact g
end Go.Sl
namespace Go.Proofs.Ytnpnndifhlihhaa
open Go.RowKit Go.Sl
set_option maxHeartbeats 1000000
set_option maxRecDepth 100000
/-- A store at a pointer. -/
structure Sto (h : Hp) (b : Nat) (js : List SJ) : Prop where
  pt : Pt kSt 93 h b js
  good : GoodS js
section
variable {w0 w : World} {l : List Hp} {h : Hp} {b : Nat} {js : List SJ}
theorem Sto.new (E : Env w0 w l) : Calls Try.prog 38 #[] w fun e w' => ∃ h b, e = .returned (.pointer (some ⟨b, 0, none⟩)) ∧ Sto h b [] ∧ Env w0 w' (l ++ [h]) :=
  (storeNew_calls w).mono fun _ _ ⟨h, b, he, hp, u⟩ => ⟨h, b, he, ⟨hp, GoodS.nil⟩, E.new u⟩
theorem Sto.post_any (S : Sto h b js) (E : Env w0 w l) (i : Nat) (hi : l[i]? = some h) (ent : ByteArray) (per kind of : Int) {D : Option Addr} {cd : Nat} {xs : List SItem} {k : Hp} (sy : Sl kItem k D cd xs) (ks : k.sub w) :
    Calls Try.prog 39 #[.pointer (some ⟨b, 0, none⟩), .string ent, .int .i64 per, .int .i64 kind, .int .i64 of, .slice D xs.length cd] w fun e w' =>
      ∃ h', e = .returned (.tuple #[.int .i64 (postSeq js ent per kind of xs), .int .i64 (postE js ent per kind of xs)]) ∧ Sto h' b (post js ent per kind of xs) ∧ Env w0 w' (l.set i h') :=
  (post_calls b js ent per kind of h w (E.sub i hi) S.pt (by have := S.good.len; omega) (fun x hx => by have := S.good.lines x hx; omega) D cd xs k ks sy).mono fun _ _ ⟨h', he, hp, u⟩ => ⟨h', he, ⟨hp, S.good.post⟩, E.upd i hi u⟩
theorem Sto.post_ok (S : Sto h b js) (E : Env w0 w l) (i : Nat) (hi : l[i]? = some h) {ent : ByteArray} {per kind of : Int} {D : Option Addr} {cd : Nat} {xs : List SItem} {k : Hp} (sy : Sl kItem k D cd xs) (ks : k.sub w) (n : Nat) (hn : xs.length = n) (hE : postE js ent per kind of xs = 0) (m : Int) (hm : (js.length : Int) + 1 = m) :
    Calls Try.prog 39 #[.pointer (some ⟨b, 0, none⟩), .string ent, .int .i64 per, .int .i64 kind, .int .i64 of, .slice D n cd] w fun e w' =>
      ∃ h', e = .returned (.tuple #[.int .i64 m, .int .i64 0]) ∧ Sto h' b (js ++ [⟨m, ent, per, kind, of, xs⟩]) ∧ Env w0 w' (l.set i h') := by
  subst hn
  subst hm
  refine (S.post_any E i hi ent per kind of sy ks).mono ?_
  rintro e w' ⟨h', he, hp, E'⟩
  rw [Go.Sl.post_ok hE] at hp
  exact ⟨h', by rw [he]; unfold postSeq; rw [hE, if_pos rfl], hp, E'⟩
theorem Sto.post_no (S : Sto h b js) (E : Env w0 w l) (i : Nat) (hi : l[i]? = some h) {ent : ByteArray} {per kind of : Int} {D : Option Addr} {cd : Nat} {xs : List SItem} {k : Hp} (sy : Sl kItem k D cd xs) (ks : k.sub w) (n : Nat) (hn : xs.length = n) {q : Int} (hE : postE js ent per kind of xs = q) (h0 : q ≠ 0) :
    Calls Try.prog 39 #[.pointer (some ⟨b, 0, none⟩), .string ent, .int .i64 per, .int .i64 kind, .int .i64 of, .slice D n cd] w fun e w' =>
      ∃ h', e = .returned (.tuple #[.int .i64 0, .int .i64 q]) ∧ Sto h' b js ∧ Env w0 w' (l.set i h') := by
  subst hn
  subst hE
  refine (S.post_any E i hi ent per kind of sy ks).mono ?_
  rintro e w' ⟨h', he, hp, E'⟩
  rw [Go.Sl.post_no h0] at hp
  exact ⟨h', by rw [he]; unfold postSeq; rw [if_neg h0], hp, E'⟩
theorem Sto.balance (S : Sto h b js) (E : Env w0 w l) (i : Nat) (hi : l[i]? = some h) {ent : ByteArray} {a upto : Int} {q : Int} (hq : balance js ent a upto = q) :
    Calls Try.prog 42 #[.pointer (some ⟨b, 0, none⟩), .string ent, .int .i64 a, .int .i64 upto] w fun e w' => e = .returned (.int .i64 q) ∧ Env w0 w' l := by
  subst hq
  exact (balance_at S.pt (E.sub i hi) (by have := S.good.len; omega) ent a upto).mono fun _ _ ⟨he, b⟩ => ⟨he, E.below b⟩
theorem Sto.trial (S : Sto h b js) (E : Env w0 w l) (i : Nat) (hi : l[i]? = some h) {ent : ByteArray} {upto : Int} {q : List SItem} (hq : trial js ent upto = q) :
    Calls Try.prog 43 #[.pointer (some ⟨b, 0, none⟩), .string ent, .int .i64 upto] w fun e w' => ∃ C cap h', e = .returned (.slice C q.length cap) ∧ Ow kItem h' C cap q ∧ Env w0 w' (l ++ [h']) := by
  subst hq
  obtain ⟨A, ca, hc, sx⟩ := S.pt.store (E.sub i hi)
  exact (trial_calls b A ca js ent upto h w (E.sub i hi) hc sx (by have := S.good.len; omega)).mono fun _ _ ⟨C, cap, h', he, ho, u⟩ => ⟨C, cap, h', he, ho, E.new u⟩
theorem Sto.journals (S : Sto h b js) (E : Env w0 w l) (i : Nat) (hi : l[i]? = some h) :
    Calls Try.prog 40 #[.pointer (some ⟨b, 0, none⟩)] w fun e w' => ∃ C cap h', e = .returned (.slice C js.length cap) ∧ Ow kJ h' C cap js ∧ Env w0 w' (l ++ [h']) :=
  (journals_at S.pt (E.sub i hi) (by have := S.good.len; omega) (fun x hx => by have := S.good.lines x hx; omega)).mono fun _ _ ⟨C, cap, h', he, ho, u⟩ => ⟨C, cap, h', he, ho, E.new u⟩
theorem Sto.clone (S : Sto h b js) (E : Env w0 w l) (i : Nat) (hi : l[i]? = some h) :
    Calls Try.prog 44 #[.pointer (some ⟨b, 0, none⟩)] w fun e w' => ∃ h' b', e = .returned (.pointer (some ⟨b', 0, none⟩)) ∧ Sto h' b' js ∧ Env w0 w' (l ++ [h']) :=
  (clone_at S.pt (E.sub i hi) (by have := S.good.len; omega) (fun x hx => by have := S.good.lines x hx; omega)).mono fun _ _ ⟨h', b', he, hp, u⟩ => ⟨h', b', he, ⟨hp, S.good⟩, E.new u⟩
end
end Go.Proofs.Ytnpnndifhlihhaa
end
section
/- The walks of the document's Money, Account, Reverse, Merge, All, Check of lines. -/
namespace Go.Proofs.Ytnpnndifhlihhaa
open Go.RowKit Go.Sl
set_option maxHeartbeats 400000
set_option maxRecDepth 100000
theorem refMoney_calls (n : Int) (w : World) : Calls Try.prog 34 #[.int .i64 n] w fun e w' => e = .returned (.bool (money n)) ∧ w = w' := by
  go_enter Try.func34, Try.ntmps34
  go_wp2
  all_goals
    go_ret
    exact ⟨by simp [money]; omega, rfl⟩
theorem refAccount_calls (a : Int) (w : World) : Calls Try.prog 62 #[.int .i64 a] w fun e w' => e = .returned (.bool (isB a)) ∧ w = w' := by
  go_enter Try.func62, Try.ntmps62
  go_wp2
  all_goals
    go_ret
    exact ⟨by simp [isB]; omega, rfl⟩
theorem refReverse_calls (A : Option Addr) (ca : Nat) (xs : List SItem) (h : Hp) (w : World) (hs : h.sub w) (sx : Sl kItem h A ca xs) (hl : xs.length ≤ 1000000) :
    Calls Try.prog 37 #[.slice A xs.length ca] w fun e w' => ∃ C cap h', e = .returned (.slice C xs.length cap) ∧ Ow kItem h' C cap (reverseL xs) ∧ Upd Hp.none h' w w' := by
  obtain ⟨i0, hi, hz0, hz1, hz2⟩ := info_parts Try.infoLine
  have m1 := sx.small
  go_enter Try.func37, Try.ntmps37
  go_wp2
  go_loopw [3, 8] (fun v i wr => ∃ (j cap : Nat) (C : Option Addr) (h' : Hp), j ≤ xs.length ∧ i = .int .i64 j ∧ v = .slice C j cap ∧ Hid (Ow kItem h' C cap (reverseTo xs j)) ∧ Upd Hp.none h' w wr) (fun _ i _ => xs.length - (intOf i).toNat)
  case atStart => exact ⟨0, 0, none, Hp.none, by omega, rfl, rfl, Ow.none _ _, Upd.of_below (Below.refl _ _)⟩
  case round =>
    obtain ⟨j, cap, C, h', hj, rfl, rfl, ho, hu⟩ := hrel
    have HL : Hid ((reverseTo xs j).length = j) := by unfold Hid; simp [reverseTo, reverseL]; omega
    by_cases hlt : j < xs.length
    · obtain ⟨x, hx⟩ := some_of_lt hlt
      obtain ⟨b1, o1, rfl, c1, c2⟩ := sx.item (hs.of_below hu.below) hx
      have i1 : (0 : Int) ≤ (j : Int) := by omega
      have i2 : (j : Int) < (xs.length : Int) := by omega
      have HT : Hid (reverseTo xs (j + 1) = reverseTo xs j ++ [⟨x.kind, wrap64 (-x.amt)⟩]) := by unfold Hid reverseTo reverseL; rw [take_next hx]; simp
      go_wp2_with (at_builtin; refine wpList_append (k := kItem) (h := h') (hx := Hp.none) (A := C) (cap := cap) (B := some ⟨wr.heap.size + 1, 0, none⟩) (xs := reverseTo xs j) (ys := [⟨x.kind, wrap64 (-x.amt)⟩]) (by rfl) (.tmp 12) (.tmp 19) 36 (by rfl) 39 i0 (.agg #[.int .i64 0, .int .i64 0]) Try.underlying36 hi hz0 hz1 (by rfl) 16 hz2 j 1 1 HL.out rfl (by rfl) (by rfl) ho.out (hu.sub.of_below (by repeat (first | exact Below.refl _ _ | apply Below.drew | refine Below.alloc ?_ (by simp) _))) (Src.new (heap_new_at (by simp)) rfl) (Hp.none_sub _) (Hp.apart_none _) (by unfold maxLen; omega) (by omega) ?_; intro C' cap' w1 h1 ho1 hu1)
      go_roundw
      case rel => exact ⟨j + 1, cap', C', h1, by omega, by go_num, rfl, by rw [HT.out]; exact ho1, hu.trans (hu1.flat.before (by repeat (first | exact Below.refl _ _ | apply Below.drew | refine Below.alloc ?_ (by simp) _)))⟩
      case measure => simp [intOf]; omega
    · obtain rfl : j = xs.length := by omega
      have hp : reverseTo xs xs.length = reverseL xs := by unfold reverseTo; rw [List.take_length]
      rw [hp] at ho
      clear hp
      go_wp2
      go_ret
      exact ⟨C, cap, h', rfl, ho.out, hu⟩
theorem refMerge_calls (A : Option Addr) (ca : Nat) (xs : List SItem) (h : Hp) (w : World) (hs : h.sub w) (sx : Sl kItem h A ca xs) (ht : Tame xs) :
    Calls Try.prog 33 #[.slice A xs.length ca] w fun e w' => ∃ C cap h', e = .returned (.slice C (merge xs).length cap) ∧ Ow kItem h' C cap (merge xs) ∧ Upd Hp.none h' w w' := by
  obtain ⟨i0, hi, hz0, hz1, hz2⟩ := info_parts Try.infoLine
  have m1 := sx.small
  go_enter Try.func33, Try.ntmps33
  go_wp2
  go_loopw [3, 4] (fun v i wr => ∃ (j cap n : Nat) (C : Option Addr) (h' : Hp), j ≤ 7 ∧ i = .int .i64 ((j : Int) + 1) ∧ v = .slice C n cap ∧ Hid (n = (mergeTo xs j).length) ∧ Hid (Ow kItem h' C cap (mergeTo xs j)) ∧ Upd Hp.none h' w wr) (fun _ i _ => 8 - (intOf i).toNat)
  case atStart => exact ⟨0, 0, 0, none, Hp.none, by omega, rfl, rfl, rfl, Ow.none _ _, Upd.of_below (Below.refl _ _)⟩
  case round =>
    obtain ⟨j, cap, n, C, h', hj, rfl, rfl, hn, ho, hu⟩ := hrel
    by_cases hlt : j < 7
    · have i1 : (0 : Int) ≤ (j : Int) := by omega
      have i2 : (j : Int) + 1 ≤ 7 := by omega
      have hlen := mergeTo_len xs j
      have hn2 : n ≤ 7 := by rw [hn.out]; omega
      obtain ⟨wo, rfl⟩ : ∃ wo : World, wo = wr := ⟨_, rfl⟩
      go_wp2
      go_loopw [5, 14] (fun s i wr => ∃ (m : Nat), m ≤ xs.length ∧ i = .int .i64 m ∧ s = .int .i64 (accSum ((j : Int) + 1) (xs.take m)) ∧ Below wo.heap.size wo wr) (fun _ i _ => xs.length - (intOf i).toNat)
      case atStart => exact ⟨0, by omega, rfl, rfl, Below.refl _ _⟩
      case round =>
        obtain ⟨m, hm, rfl, rfl, hb⟩ := hrel
        by_cases hmt : m < xs.length
        · obtain ⟨x, hx⟩ := some_of_lt hmt
          obtain ⟨b1, o1, rfl, c1, c2⟩ := sx.item ((hs.of_below hu.below).of_below hb) hx
          have i1 : (0 : Int) ≤ (m : Int) := by omega
          have i2 : (m : Int) < (xs.length : Int) := by omega
          obtain ⟨q1, q2⟩ := (ht.take m).acc ((j : Int) + 1)
          obtain ⟨q3, q4⟩ := ht.amt x (List.mem_of_getElem? hx.out)
          by_cases hk : x.kind = (j : Int) + 1
          · have hkb : (x.kind == (j : Int) + 1) = true := by simpa using hk
            have HT : Hid (accSum ((j : Int) + 1) (xs.take (m + 1)) = accSum ((j : Int) + 1) (xs.take m) + x.amt) := by unfold Hid; rw [take_next hx, accSum_snoc, if_pos hk]
            clear hk
            go_wp2
            go_roundw
            case rel => exact ⟨m + 1, by omega, by go_num, by rw [HT.out], hb.alloc hb.size _⟩
            case measure => simp [intOf]; omega
          · have hkb : (x.kind == (j : Int) + 1) = false := by simpa using hk
            have HT : Hid (accSum ((j : Int) + 1) (xs.take (m + 1)) = accSum ((j : Int) + 1) (xs.take m)) := by unfold Hid; rw [take_next hx, accSum_snoc, if_neg hk, Int.add_zero]
            clear hk
            go_wp2
            go_roundw
            case rel => exact ⟨m + 1, by omega, by go_num, by rw [HT.out], hb.alloc hb.size _⟩
            case measure => simp [intOf]; omega
        · obtain rfl : m = xs.length := by omega
          rw [List.take_length]
          generalize hg : accSum ((j : Int) + 1) xs = s at *
          by_cases h0 : s = 0
          · have hbz : (s != 0) = false := by simpa using h0
            have HT : Hid (mergeTo xs (j + 1) = mergeTo xs j) := mergeTo_no (by rw [hg]; exact h0)
            clear h0 hg
            go_wp2
            go_roundw
            case rel => exact ⟨j + 1, cap, n, C, h', by omega, by go_num, rfl, by rw [HT.out]; exact hn, by rw [HT.out]; exact ho, hu.after hb⟩
            case measure => simp [intOf]; omega
          · have hbz : (s != 0) = true := by simpa using h0
            have HT : Hid (mergeTo xs (j + 1) = mergeTo xs j ++ [⟨(j : Int) + 1, s⟩]) := by unfold Hid; rw [← hg]; exact mergeTo_yes (by rw [hg]; exact h0)
            clear h0 hg
            go_wp2_with (at_builtin; refine wpList_append (k := kItem) (h := h') (hx := Hp.none) (A := C) (cap := cap) (B := some ⟨wr.heap.size, 0, none⟩) (xs := mergeTo xs j) (ys := [⟨(j : Int) + 1, s⟩]) (by rfl) (.tmp 29) (.tmp 33) 36 (by rfl) 39 i0 (.agg #[.int .i64 0, .int .i64 0]) Try.underlying36 hi hz0 hz1 (by rfl) 16 hz2 n 1 1 hn.out.symm rfl (by rfl) (by rfl) ho.out ((hu.sub.of_below hb).of_below (by repeat (first | exact Below.refl _ _ | apply Below.drew | refine Below.alloc ?_ (by simp) _))) (Src.new (heap_new_at (by simp)) rfl) (Hp.none_sub _) (Hp.apart_none _) (by unfold maxLen; omega) (by omega) ?_; intro C' cap' w4 h1 ho1 hu1)
            go_roundw
            case rel => exact ⟨j + 1, cap', n + 1, C', h1, by omega, by go_num, rfl, by rw [HT.out]; unfold Hid; rw [List.length_append, ← hn.out]; rfl, by rw [HT.out]; exact ho1, (hu.after hb).trans (hu1.flat.before (by repeat (first | exact Below.refl _ _ | apply Below.drew | refine Below.alloc ?_ (by simp) _)))⟩
            case measure => simp [intOf]; omega
    · obtain rfl : j = 7 := by omega
      go_wp2
      go_ret
      exact ⟨C, cap, h', by rw [hn.out]; rfl, ho.out, hu⟩
theorem all_calls (A : Option Addr) (ca : Nat) (xs : List SItem) (most : Int) (h : Hp) (w : World) (hs : h.sub w) (sx : Sl kItem h A ca xs) :
    Calls Try.prog 32 #[.slice A xs.length ca, .int .i64 most] w fun e w' => e = .returned (.bool ((xs.all fun x => money x.amt) && decide ((xs.length : Int) ≤ most))) ∧ Below w.heap.size w w' := by
  have m1 := sx.small
  go_enter Try.func32, Try.ntmps32
  go_wp2
  go_loopw [9] (fun i wr => ∃ (j : Nat), j ≤ xs.length ∧ i = .int .i64 j ∧ Hid ((xs.take j).all (fun x => money x.amt) = true) ∧ Below w.heap.size w wr) (fun i _ => xs.length - (intOf i).toNat)
  case atStart => exact ⟨0, by omega, rfl, rfl, Below.refl _ _⟩
  case round =>
    obtain ⟨j, hj, rfl, hA, hb⟩ := hrel
    by_cases hlt : j < xs.length
    · obtain ⟨x, hx⟩ := some_of_lt hlt
      obtain ⟨b1, o1, rfl, c1, c2⟩ := sx.item (hs.of_below hb) hx
      have i1 : (0 : Int) ≤ (j : Int) := by omega
      have i2 : (j : Int) < (xs.length : Int) := by omega
      by_cases hm : money x.amt = true
      · have HN : Hid ((xs.take (j + 1)).all (fun x => money x.amt) = true) := by unfold Hid; rw [take_next hx, List.all_append, hA.out]; simp [hm]
        go_wp2_with (go_at_call 34; refine (refMoney_calls _ _).mono ?_; rintro e w' ⟨rfl, rfl⟩)
        go_roundw
        case rel => exact ⟨j + 1, by omega, by go_num, HN, hb.alloc hb.size _⟩
        case measure => simp [intOf]; omega
      · have hm' : money x.amt = false := by simpa using hm
        have HN : Hid (((xs.all fun x => money x.amt) && decide ((xs.length : Int) ≤ most)) = false) := by
          have : (xs.all fun x => money x.amt) = false := by rw [List.all_eq_false]; exact ⟨x, List.mem_of_getElem? hx.out, by simp [hm']⟩
          unfold Hid; rw [this, Bool.false_and]
        clear hm
        go_wp2_with (go_at_call 34; refine (refMoney_calls _ _).mono ?_; rintro e w' ⟨rfl, rfl⟩)
        go_ret
        exact ⟨by rw [HN.out]; rfl, hb.alloc hb.size _⟩
    · obtain rfl : j = xs.length := by omega
      have HN : Hid ((xs.all fun x => money x.amt) = true) := by have := hA.out; rw [List.take_length] at this; exact this
      go_wp2
      go_ret
      exact ⟨by rw [HN.out, Bool.true_and]; rfl, hb⟩
end Go.Proofs.Ytnpnndifhlihhaa
end
section
/- The walk of play.Right: merged lines that come to nothing. -/
namespace Go.Proofs.Ytnpnndifhlihhaa
open Go.RowKit Go.Sl
set_option maxHeartbeats 400000
set_option maxRecDepth 100000
def rawLine (p : Int × Int) : SItem := ⟨1 + within p.1 7, (if money (amount p.2) = true then amount p.2 else 5).tmod 1000000⟩
def rawLines (ks ams : List Int) (n : Nat) : List SItem := ((ks.zip ams).take n).map rawLine
def rightL (ks ams : List Int) : List SItem := merge (merge (rawLines ks ams 12) ++ [⟨2, -sumAmt (merge (rawLines ks ams 12))⟩])
theorem tmod_bd (n : Int) : -1000000 < n.tmod 1000000 ∧ n.tmod 1000000 < 1000000 := ⟨Int.lt_tmod_of_pos n (by omega), Int.tmod_lt_of_pos n (by omega)⟩
theorem rawLines_len (ks ams : List Int) (n : Nat) : (rawLines ks ams n).length ≤ n := by simp [rawLines]; omega
theorem rawLines_amt {ks ams : List Int} {n : Nat} {x : SItem} (h : x ∈ rawLines ks ams n) : -1000000 ≤ x.amt ∧ x.amt ≤ 1000000 := by
  obtain ⟨p, _, rfl⟩ := List.mem_map.1 h
  have := tmod_bd (if money (amount p.2) = true then amount p.2 else 5)
  simp only [rawLine]; omega
theorem rawLines_tame (ks ams : List Int) : Tame (rawLines ks ams 12) := ⟨by have := rawLines_len ks ams 12; omega, fun x hx => by have := rawLines_amt hx; omega⟩
theorem raw_acc (ks ams : List Int) (a : Int) : -12000000 ≤ accSum a (rawLines ks ams 12) ∧ accSum a (rawLines ks ams 12) ≤ 12000000 := by
  have h1 := accSum_bd (b := 1000000) (by omega) a (rawLines ks ams 12) (fun x hx => rawLines_amt hx)
  have h2 := rawLines_len ks ams 12
  omega
theorem merge_len (xs : List SItem) : (merge xs).length ≤ 7 := mergeTo_len xs 7
theorem raw_merge_tame (ks ams : List Int) : Tame (merge (rawLines ks ams 12)) := Tame.merge fun a => by have := raw_acc ks ams a; omega
theorem raw_merge_amt {ks ams : List Int} {x : SItem} (h : x ∈ merge (rawLines ks ams 12)) : -12000000 ≤ x.amt ∧ x.amt ≤ 12000000 := by
  have h1 := mergeTo_mem h
  rw [h1.2.2.1]; exact raw_acc ks ams _
theorem raw_sum (ks ams : List Int) (n : Nat) : -84000000 ≤ sumAmt ((merge (rawLines ks ams 12)).take n) ∧ sumAmt ((merge (rawLines ks ams 12)).take n) ≤ 84000000 := by
  have h1 := sumAmt_bd (b := 12000000) (by omega) ((merge (rawLines ks ams 12)).take n) (fun x hx => raw_merge_amt (List.mem_of_mem_take hx))
  have h2 := merge_len (rawLines ks ams 12)
  rw [List.length_take] at h1
  omega
theorem right_tame (ks ams : List Int) : Tame (merge (rawLines ks ams 12) ++ [⟨2, -sumAmt (merge (rawLines ks ams 12))⟩]) := by
  have h1 := raw_sum ks ams 7
  rw [List.take_of_length_le (merge_len _)] at h1
  exact Tame.append (raw_merge_tame ks ams) ⟨by simp, by simp; omega⟩ (by have := merge_len (rawLines ks ams 12); simp; omega)
theorem raw_kinds (ks ams : List Int) (n : Nat) : Kinds7 (rawLines ks ams n) := fun x hx => by
  obtain ⟨p, _, rfl⟩ := List.mem_map.1 hx
  have h1 := within_lo p.1 (n := 7) (by omega)
  have h2 := within_hi p.1 (n := 7) (by omega)
  simp only [rawLine]; omega
theorem right_fine (ks ams : List Int) : Fine (rightL ks ams) := by
  have hk : Kinds7 (merge (rawLines ks ams 12) ++ [⟨2, -sumAmt (merge (rawLines ks ams 12))⟩]) := kinds7_append (kinds7_merge _) (by intro x hx; simp at hx; subst hx; simp)
  have hs := raw_sum ks ams 7
  rw [List.take_of_length_le (merge_len _)] at hs
  have hb : ∀ x ∈ merge (rawLines ks ams 12) ++ [⟨2, -sumAmt (merge (rawLines ks ams 12))⟩], -84000000 ≤ x.amt ∧ x.amt ≤ 84000000 := fun x hx => by
    rcases List.mem_append.1 hx with hx | hx
    · have := raw_merge_amt hx; omega
    · simp at hx; subst hx; simp; omega
  have hacc : ∀ a, -100000000 ≤ accSum a (merge (rawLines ks ams 12) ++ [⟨2, -sumAmt (merge (rawLines ks ams 12))⟩]) ∧ accSum a (merge (rawLines ks ams 12) ++ [⟨2, -sumAmt (merge (rawLines ks ams 12))⟩]) ≤ 100000000 := fun a => by
    rw [accSum_append]
    have h1 : -12000000 ≤ accSum a (merge (rawLines ks ams 12)) ∧ accSum a (merge (rawLines ks ams 12)) ≤ 12000000 := by
      by_cases h : 1 ≤ a ∧ a ≤ 7
      · rw [accSum_merge h.1 h.2]; exact raw_acc ks ams a
      · rw [accSum_merge_out (by omega)]; omega
    have h2 : -84000000 ≤ accSum a [(⟨2, -sumAmt (merge (rawLines ks ams 12))⟩ : SItem)] ∧ accSum a [(⟨2, -sumAmt (merge (rawLines ks ams 12))⟩ : SItem)] ≤ 84000000 := by
      simp only [accSum]; split <;> omega
    omega
  refine ⟨merge_merge _, kinds7_merge _, merge_len _, fun x hx => ?_, fun x hx => (mergeTo_mem hx).2.2.2, ?_⟩
  · have := mergeTo_mem hx; rw [this.2.2.1]; exact hacc _
  · unfold rightL; rw [sumAmt_merge hk, sumAmt_snoc]; dsimp only; omega
theorem playRight_calls (A B : Option Addr) (ca cb : Nat) (ks ams : List Int) (h k : Hp) (w : World) (hs : h.sub w) (qs : k.sub w) (sx : Sl kInt h A ca ks) (sy : Sl kInt k B cb ams)
    (hw : ∀ n ∈ ams, I64 n) :
    Calls Try.prog 28 #[.slice A ks.length ca, .slice B ams.length cb] w fun e w' => ∃ C cap h', e = .returned (.slice C (rightL ks ams).length cap) ∧ Ow kItem h' C cap (rightL ks ams) ∧ Upd Hp.none h' w w' := by
  obtain ⟨i0, hi, hz0, hz1, hz2⟩ := info_parts Try.infoLine
  have m1 := sx.small
  have m2 := sy.small
  go_enter Try.func28, Try.ntmps28
  go_wp2
  go_loopw [5, 6] (fun v i wr => ∃ (j cap : Nat) (C : Option Addr) (h' : Hp), j ≤ ks.length ∧ j ≤ ams.length ∧ j ≤ 12 ∧ i = .int .i64 j ∧ v = .slice C j cap ∧ Hid (Ow kItem h' C cap (rawLines ks ams j)) ∧ Upd Hp.none h' w wr) (fun _ i _ => ks.length - (intOf i).toNat)
  case atStart => exact ⟨0, 0, none, Hp.none, by omega, by omega, by omega, rfl, rfl, Ow.none _ _, Upd.of_below (Below.refl _ _)⟩
  case round =>
    obtain ⟨j, cap, C, h', l1, l2, l3, rfl, rfl, ho, hu⟩ := hrel
    have HL : Hid ((rawLines ks ams j).length = j) := by unfold Hid; simp [rawLines]; omega
    by_cases hlt : j < ks.length ∧ j < ams.length ∧ j < 12
    · obtain ⟨t1, t2, t3⟩ := hlt
      obtain ⟨x, hx⟩ := some_of_lt t1
      obtain ⟨y, hy⟩ := some_of_lt t2
      obtain ⟨b1, o1, rfl, c1⟩ := sx.int (hs.of_below hu.below) hx
      obtain ⟨b2, o2, rfl, d1⟩ := sy.int (qs.of_below hu.below) hy
      have hyw := hw y (List.mem_of_getElem? hy.out)
      have i1 : (0 : Int) ≤ (j : Int) := by omega
      have i2 : (j : Int) < (ks.length : Int) := by omega
      have i3 : (j : Int) < (ams.length : Int) := by omega
      have i4 : (j : Int) < 12 := by omega
      have r1 := within_lo x (n := 7) (by omega)
      have r2 := within_hi x (n := 7) (by omega)
      have HT : Hid (rawLines ks ams (j + 1) = rawLines ks ams j ++ [rawLine (x, y)]) := by
        unfold Hid rawLines
        rw [take_next (x := (x, y)) (List.getElem?_zip_eq_some.2 ⟨hx.out, hy.out⟩), List.map_append]
        rfl
      by_cases hm : money (amount y) = true
      · have HR : Hid (rawLine (x, y) = ⟨1 + within x 7, (amount y).tmod 1000000⟩) := by unfold Hid rawLine; rw [if_pos hm]
        go_wp2_with (first
          | (go_at_call 16; refine (within_calls _ _ _ (by omega) (by omega)).mono ?_; rintro e w' ⟨rfl, rfl⟩)
          | (go_at_call 53; refine (amount_calls _ hyw _).mono ?_; rintro e w' ⟨rfl, rfl⟩)
          | (go_at_call 34; refine (refMoney_calls _ _).mono ?_; rintro e w' ⟨rfl, rfl⟩)
          | (at_builtin; refine wpList_append (k := kItem) (h := h') (hx := Hp.none) (A := C) (cap := cap) (B := some ⟨wr.heap.size, 0, none⟩) (xs := rawLines ks ams j) (ys := [⟨1 + within x 7, (amount y).tmod 1000000⟩]) (by rfl) (.tmp 35) (.tmp 45) 36 (by rfl) 39 i0 (.agg #[.int .i64 0, .int .i64 0]) Try.underlying36 hi hz0 hz1 (by rfl) 16 hz2 j 1 1 HL.out rfl (by rfl) (by rfl) ho.out (hu.sub.of_below (by repeat (first | exact Below.refl _ _ | apply Below.drew | refine Below.alloc ?_ (by simp) _))) (Src.new (heap_new_at (by simp)) rfl) (Hp.none_sub _) (Hp.apart_none _) (by unfold maxLen; omega) (by omega) ?_; intro C' cap' w1 h1 ho1 hu1))
        go_roundw
        case rel => exact ⟨j + 1, cap', C', h1, by omega, by omega, by omega, by go_num, rfl, by rw [HT.out, HR.out]; exact ho1, hu.trans (hu1.flat.before (by repeat (first | exact Below.refl _ _ | apply Below.drew | refine Below.alloc ?_ (by simp) _)))⟩
        case measure => simp [intOf]; omega
      · have hm' : money (amount y) = false := by simpa using hm
        have HR : Hid (rawLine (x, y) = ⟨1 + within x 7, 5⟩) := by unfold Hid rawLine; rw [if_neg hm]; rfl
        clear hm
        go_wp2_with (first
          | (go_at_call 16; refine (within_calls _ _ _ (by omega) (by omega)).mono ?_; rintro e w' ⟨rfl, rfl⟩)
          | (go_at_call 53; refine (amount_calls _ hyw _).mono ?_; rintro e w' ⟨rfl, rfl⟩)
          | (go_at_call 34; refine (refMoney_calls _ _).mono ?_; rintro e w' ⟨rfl, rfl⟩)
          | (at_builtin; refine wpList_append (k := kItem) (h := h') (hx := Hp.none) (A := C) (cap := cap) (B := some ⟨wr.heap.size, 0, none⟩) (xs := rawLines ks ams j) (ys := [⟨1 + within x 7, 5⟩]) (by rfl) (.tmp 35) (.tmp 45) 36 (by rfl) 39 i0 (.agg #[.int .i64 0, .int .i64 0]) Try.underlying36 hi hz0 hz1 (by rfl) 16 hz2 j 1 1 HL.out rfl (by rfl) (by rfl) ho.out (hu.sub.of_below (by repeat (first | exact Below.refl _ _ | apply Below.drew | refine Below.alloc ?_ (by simp) _))) (Src.new (heap_new_at (by simp)) rfl) (Hp.none_sub _) (Hp.apart_none _) (by unfold maxLen; omega) (by omega) ?_; intro C' cap' w1 h1 ho1 hu1))
        go_roundw
        case rel => exact ⟨j + 1, cap', C', h1, by omega, by omega, by omega, by go_num, rfl, by rw [HT.out, HR.out]; exact ho1, hu.trans (hu1.flat.before (by repeat (first | exact Below.refl _ _ | apply Below.drew | refine Below.alloc ?_ (by simp) _)))⟩
        case measure => simp [intOf]; omega
    · have hfin : rawLines ks ams j = rawLines ks ams 12 := by
        unfold rawLines
        congr 1
        by_cases h3 : j < 12
        · rw [List.take_of_length_le (by simp; omega), List.take_of_length_le (by simp; omega)]
        · have : j = 12 := by omega
          rw [this]
      rw [hfin] at ho HL
      have RM := refMerge_calls C cap (rawLines ks ams 12) h' wr hu.sub ho.out.sl (rawLines_tame ks ams)
      rw [HL.out] at RM
      have hRT := right_tame ks ams
      have hML := merge_len (rawLines ks ams 12)
      have hMS := raw_sum ks ams
      have hMA := fun x hx => raw_merge_amt (ks := ks) (ams := ams) (x := x) hx
      have HRL : Hid (rightL ks ams = merge (merge (rawLines ks ams 12) ++ [⟨2, -sumAmt (merge (rawLines ks ams 12))⟩])) := rfl
      have hMA' := Lib.hid hMA
      have hMS' := Lib.hid hMS
      clear hfin hMA hMS
      generalize merge (rawLines ks ams 12) = L at *
      have hex : ¬ j < ks.length ∨ (j < ks.length ∧ ¬ j < ams.length) ∨ (j < ks.length ∧ j < ams.length ∧ ¬ (j : Int) < 12) := by omega
      clear hlt
      rcases hex with t1 | ⟨t1, t2⟩ | ⟨t1, t2, t3⟩
      all_goals
        go_wp2_with fail
        refine RM.mono ?_
        rintro e w1 ⟨C1, cap1, h1, rfl, o1, u1⟩
        have U1 : Upd Hp.none h1 w w1 := u1.before hu.below
        go_wp2
        go_loopw [8, 51] (fun s i wr => ∃ (j : Nat), j ≤ L.length ∧ i = .int .i64 j ∧ s = .int .i64 (sumAmt (L.take j)) ∧ Below w1.heap.size w1 wr) (fun _ i _ => L.length - (intOf i).toNat)
        case atStart => exact ⟨0, by omega, rfl, rfl, Below.refl _ _⟩
        case round =>
          obtain ⟨m, hm, rfl, rfl, hb⟩ := hrel
          obtain ⟨q1, q2⟩ := hMS'.out m
          by_cases hmt : m < L.length
          · obtain ⟨x, hx⟩ := some_of_lt hmt
            obtain ⟨b1, o1', e1, c1, c2⟩ := o1.sl.item (u1.sub.of_below hb) hx
            subst e1
            obtain ⟨q3, q4⟩ := hMA'.out x (List.mem_of_getElem? hx.out)
            have i1 : (0 : Int) ≤ (m : Int) := by omega
            have i2 : (m : Int) < (L.length : Int) := by omega
            have HT := Lib.hid (take_next hx)
            go_wp2
            go_roundw
            case rel => exact ⟨m + 1, by omega, by go_num, by rw [HT.out, sumAmt_snoc], hb.alloc hb.size _⟩
            case measure => simp [intOf]; omega
          · obtain rfl : m = L.length := by omega
            rw [List.take_length] at q1 q2 ⊢
            go_wp2_with (at_builtin; refine wpList_append (k := kItem) (h := h1) (hx := Hp.none) (A := C1) (cap := cap1) (B := some ⟨wr.heap.size, 0, none⟩) (xs := L) (ys := [⟨2, -sumAmt L⟩]) (by rfl) (.tmp 60) (.tmp 64) 36 (by rfl) 39 i0 (.agg #[.int .i64 0, .int .i64 0]) Try.underlying36 hi hz0 hz1 (by rfl) 16 hz2 L.length 1 1 rfl rfl (by rfl) (by rfl) o1 ((u1.sub.of_below hb).of_below (by repeat (first | exact Below.refl _ _ | apply Below.drew | refine Below.alloc ?_ (by simp) _))) (Src.new (heap_new_at (by simp)) rfl) (Hp.none_sub _) (Hp.apart_none _) (by unfold maxLen; omega) (by omega) ?_; intro C' cap' w2 h2 ho2 hu2)
            have U2 : Upd Hp.none h2 w w2 := (U1.after hb).trans (hu2.flat.before (by repeat (first | exact Below.refl _ _ | apply Below.drew | refine Below.alloc ?_ (by simp) _)))
            have RM2 := refMerge_calls C' cap' (L ++ [⟨2, -sumAmt L⟩]) h2 w2 U2.sub ho2.sl hRT
            rw [List.length_append, List.length_singleton] at RM2
            refine RM2.mono ?_
            rintro e w3 ⟨C3, cap3, h3, rfl, o3, u3⟩
            go_wp2
            go_ret
            exact ⟨C3, cap3, h3, by rw [HRL.out]; rfl, by rw [HRL.out]; exact o3, u3.before U2.below⟩
end Go.Proofs.Ytnpnndifhlihhaa
end
section
/- Plain facts about posts. -/
namespace Go.Sl
open Go.RowKit Go.Proofs.Ytnpnndifhlihhaa
theorem wrapNeg {n : Int} (h : -100000000000 ≤ n ∧ n ≤ 100000000000) : wrap64 (-n) = -n := by unfold wrap64; omega
theorem strNe {a b : List UInt8} (h : a ≠ b) : ¬ (ByteArray.toList ⟨a.toArray⟩ = ByteArray.toList ⟨b.toArray⟩) := by
  rw [tl_data, tl_data]; simpa using h
theorem argsBad_prov {ent : ByteArray} {p : Int} (he : ent.toList ≠ []) (hp : 0 ≤ p ∧ p ≤ 399) : argsBad ent p 1 0 = false := by
  simp [argsBad, he, hp]
theorem argsBad_rev {ent : ByteArray} {p of : Int} (he : ent.toList ≠ []) (hp : 0 ≤ p ∧ p ≤ 399) : argsBad ent p 2 of = false := by
  simp [argsBad, he, hp]
theorem linesE_prov (js : List SJ) (ent : ByteArray) (p of : Int) (xs : List SItem) : linesE js ent p 1 of xs = checkE xs := by simp [linesE]
section
variable {js : List SJ} {ent : ByteArray} {p of : Int} {xs : List SItem}
theorem postE_good {kind : Int} (ha : argsBad ent p kind of = false) (hL : linesE js ent p kind of xs = 0) (hl : js.length < 200) (hb : ∀ x ∈ xs, money (balance js ent x.kind 399 + x.amt) = true) : postE js ent p kind of xs = 0 := by
  have h3 : xs.any (overX js ent) = false := by rw [List.any_eq_false]; intro x hx; simp [overX, hb x hx]
  unfold postE
  rw [if_neg (by rw [ha]; decide), hL, if_neg (by decide), if_neg (by omega), h3, if_neg (by decide)]
theorem postE_prov (he : ent.toList ≠ []) (hp : 0 ≤ p ∧ p ≤ 399) (hc : checkE xs = 0) (hl : js.length < 200) (hb : ∀ x ∈ xs, money (balance js ent x.kind 399 + x.amt) = true) : postE js ent p 1 0 xs = 0 :=
  postE_good (argsBad_prov he hp) (by rw [linesE_prov]; exact hc) hl hb
theorem postE_args {kind : Int} (h : argsBad ent p kind of = true) : postE js ent p kind of xs = 1 := by unfold postE; rw [if_pos h]
theorem postE_lines {kind q : Int} (ha : argsBad ent p kind of = false) (hL : linesE js ent p kind of xs = q) (h0 : q ≠ 0) : postE js ent p kind of xs = q := by
  unfold postE; rw [if_neg (by rw [ha]; decide), hL, if_pos h0]
theorem postE_limit {kind : Int} (ha : argsBad ent p kind of = false) (hL : linesE js ent p kind of xs = 0) (hl : 200 ≤ js.length) : postE js ent p kind of xs = 5 := by
  unfold postE; rw [if_neg (by rw [ha]; decide), hL, if_neg (by decide), if_pos hl]
theorem postE_over {kind : Int} (ha : argsBad ent p kind of = false) (hL : linesE js ent p kind of xs = 0) (hl : js.length < 200) {x : SItem} (hx : x ∈ xs) (hb : money (balance js ent x.kind 399 + x.amt) = false) : postE js ent p kind of xs = 6 := by
  unfold postE
  rw [if_neg (by rw [ha]; decide), hL, if_neg (by decide), if_neg (by omega), if_pos (List.any_eq_true.2 ⟨x, hx, by simp [overX, hb]⟩)]
theorem linesE_rev {q : Int} (h : revE js ent p of = q) (h0 : q ≠ 0) : linesE js ent p 2 of xs = q := by unfold linesE; rw [if_pos rfl, h, if_pos h0]
theorem linesE_revOk {x : SJ} (h : revE js ent p of = 0) (hx : revX js of = some x) (hc : checkE xs = 0) (e : xs = reverseL x.lines) : linesE js ent p 2 of xs = 0 := by
  unfold linesE; rw [if_pos rfl, h, if_neg (by decide), hc, if_neg (by decide), hx]; simp [eqB, e]
theorem linesE_revForm {x : SJ} (h : revE js ent p of = 0) (hx : revX js of = some x) (hc : checkE xs = 0) (e : xs ≠ reverseL x.lines) : linesE js ent p 2 of xs = 2 := by
  unfold linesE; rw [if_pos rfl, h, if_neg (by decide), hc, if_neg (by decide), hx]; simp [eqB, e]
end
theorem balance_nil (ent : ByteArray) (a upto : Int) : balance [] ent a upto = 0 := rfl
theorem share_in {ent : ByteArray} {a upto : Int} {x : SJ} (h : x.ent.toList = ent.toList) (hp : x.period ≤ upto) : share ent a upto x = netF x.lines a := if_pos ⟨h, hp⟩
theorem share_out {ent : ByteArray} {a upto : Int} {x : SJ} (h : x.ent.toList ≠ ent.toList) : share ent a upto x = 0 := if_neg fun e => h e.1
theorem share_late {ent : ByteArray} {a upto : Int} {x : SJ} (h : upto < x.period) : share ent a upto x = 0 := if_neg fun e => by omega
theorem trialTo_congr {f g : Int → Int} : ∀ n : Nat, (∀ k : Int, 1 ≤ k → k ≤ n → f k = g k) → trialTo f n = trialTo g n
  | 0, _ => rfl
  | n + 1, h => by
    have h1 := h (n + 1) (by omega) (by omega)
    simp only [trialTo, h1, trialTo_congr n fun k a b => h k a (by omega)]
/-- A trial balance that is known account by account. -/
theorem trial_merge {js : List SJ} {ent : ByteArray} {upto : Int} {z : List SItem} (h : ∀ k, 1 ≤ k → k ≤ 7 → balance js ent k upto = accSum k z) : trial js ent upto = merge z := by
  unfold trial merge
  rw [mergeTo_trial]
  exact trialTo_congr 7 h
theorem trial_none {js : List SJ} {ent : ByteArray} {upto : Int} (h : ∀ k, 1 ≤ k → k ≤ 7 → balance js ent k upto = 0) : trial js ent upto = [] := by
  rw [trial_merge (z := []) (fun k a b => by rw [h k a b]; rfl)]; rfl
theorem check_of {xs : List SItem} (h : checkB xs = true) : checkE xs = 0 := by unfold checkE; rw [if_pos h]
theorem Fine.checkE {xs : List SItem} (f : Fine xs) : checkE xs = 0 := check_of f.check
theorem Fine.net {xs : List SItem} (f : Fine xs) (a : Int) : netF xs a = accSum a xs := by unfold netF; rw [if_pos f.few]
theorem accSum_reverse {xs : List SItem} (h : ∀ x ∈ xs, -100000000000 ≤ x.amt ∧ x.amt ≤ 100000000000) (a : Int) : accSum a (reverseL xs) = -accSum a xs := by
  induction xs with
  | nil => rfl
  | cons x xs ih =>
    have h1 := ih fun y hy => h y (by simp [hy])
    have h2 := wrapNeg (h x (by simp))
    simp only [reverseL, List.map_cons, accSum] at h1 ⊢
    rw [h1, h2]
    split <;> omega
end Go.Sl
end
section
/- law07.wakes: the document's example of chapter 7. -/
namespace Go.Proofs.Ytnpnndifhlihhaa
open Go.RowKit Go.Sl
set_option maxHeartbeats 1000000
set_option maxRecDepth 100000
theorem wakes07 (w : World) : Calls Try.prog 41 #[] w fun e w' => e = .returned (.bool true) ∧ Below w.heap.size w w' := by
  have E0 := Env.start w
  have HE : Hid (postE [] ⟨#[97]⟩ 1 1 0 [⟨1, 5⟩, ⟨2, -5⟩] = 0) := postE_prov (by rw [tl_data]; simp) (by omega) (by decide) (by decide) (by decide)
  have HB : Hid (balance [⟨1, ⟨#[97]⟩, 1, 1, 0, [⟨1, 5⟩, ⟨2, -5⟩]⟩] ⟨#[97]⟩ 1 1 = 5) := by unfold Hid; simp [balance, share, netF, fewB, money, accSum]
  go_enter Try.func41, Try.ntmps41
  go_wp2_with fail
  refine (Sto.new E0).mono ?_
  rintro e w1 ⟨hS, b, rfl, S, E1⟩
  go_wp2_with fail
  refine (S.journals E1 0 rfl).mono ?_
  rintro e w2 ⟨C, cap, h2, rfl, _, E2⟩
  go_wp2_with fail
  refine (S.post_ok (E2.alloc _) 0 rfl (xs := [⟨1, 5⟩, ⟨2, -5⟩]) (Sl.lit (Hp.one_self _ _) (by unfold maxLen; decide)) ((E2.alloc _).sub 2 rfl) 2 rfl HE.out 1 rfl).mono ?_
  rintro e w3 ⟨h3, rfl, S3, E3⟩
  go_wp2_with fail
  refine (S3.balance E3 0 rfl HB.out).mono ?_
  rintro e w4 ⟨rfl, E4⟩
  go_wp2
  go_ret
  exact ⟨rfl, E4.low⟩
end Go.Proofs.Ytnpnndifhlihhaa
end
section
/- The law StoreErrors, plain facts and walk. -/
namespace Go.Sl
open Go.RowKit Go.Proofs.Ytnpnndifhlihhaa
namespace Errs
/-- A row of the law's table. -/
structure SRow where
  id : ByteArray
  per : Int
  kind : Int
  of : Int
  A : Option Addr
  n : Nat
  cap : Nat
  err : Int
def SRow.cells (x : SRow) : List Value := [.string x.id, .int .i64 x.per, .int .i64 x.kind, .int .i64 x.of, .slice x.A x.n x.cap, .int .i64 x.err]
def kRow : Kd SRow := Kd.flat 6 SRow.cells (by decide) (fun _ => rfl) (fun x u h => by simp [SRow.cells] at h; rcases h with rfl | rfl | rfl | rfl | rfl | rfl <;> rfl)
theorem _root_.Go.Sl.Sl.errRow {h : Hp} {A : Option Addr} {cap : Nat} {xs : List SRow} {w : World} (s : Sl kRow h A cap xs) (hs : h.sub w) {i : Nat} {x : SRow} (hx : Hid (xs[i]? = some x)) :
    ∃ b off, A = some ⟨b, off, .none⟩ ∧ w.cell? ⟨b, off + i * 6, .none⟩ = some (.string x.id) ∧ w.cell? ⟨b, off + i * 6 + 1, .none⟩ = some (.int .i64 x.per) ∧ w.cell? ⟨b, off + i * 6 + 2, .none⟩ = some (.int .i64 x.kind) ∧
      w.cell? ⟨b, off + i * 6 + 3, .none⟩ = some (.int .i64 x.of) ∧ w.cell? ⟨b, off + i * 6 + 4, .none⟩ = some (.slice x.A x.n x.cap) ∧ w.cell? ⟨b, off + i * 6 + 5, .none⟩ = some (.int .i64 x.err) := by
  obtain ⟨b, off, cs, e, hK, _, hc⟩ := s.at hs hx.out
  have hK' : cs = SRow.cells x := hK
  subst hK'
  exact ⟨b, off, e, by simpa [kRow, Kd.flat] using hc 0 _ rfl, hc 1 _ rfl, hc 2 _ rfl, hc 3 _ rfl, hc 4 _ rfl, hc 5 _ rfl⟩
def a : ByteArray := ⟨#[97]⟩
def b : ByteArray := ⟨#[98]⟩
theorem aa : a.toList = [97] := by unfold a; rw [tl_data]
theorem bb : b.toList = [98] := by unfold b; rw [tl_data]
def two (n : Int) : List SItem := [⟨1, n⟩, ⟨2, -n⟩]
def table (p : Int) (A : Option Addr) : List SRow :=
  [⟨⟨#[]⟩, p, 1, 0, A, 2, 2, 1⟩, ⟨a, -1, 1, 0, A, 2, 2, 1⟩, ⟨a, 400, 1, 0, A, 2, 2, 1⟩, ⟨a, p, 3, 0, A, 2, 2, 1⟩, ⟨a, p, 1, 1, A, 2, 2, 1⟩, ⟨a, p, 2, 0, A, 2, 2, 3⟩, ⟨a, p, 1, 0, A, 1, 2, 2⟩]
theorem two_check {n : Int} (h : 1 ≤ n ∧ n ≤ 100000000000) : checkE (two n) = 0 := by
  have e1 : money n = true := by simp [money]; omega
  have e2 : money (-n) = true := by simp [money]; omega
  refine check_of ?_
  simp [checkB, two, risingB, lineB, debs, cres, deb, cre, e1, e2]
  omega
theorem one_check {n : Int} (h : 1 ≤ n ∧ n ≤ 100000000000) : checkE [⟨1, n⟩] = 2 := by
  have e1 : money n = true := by simp [money]; omega
  have : checkB [⟨1, n⟩] = false := by
    simp [checkB, risingB, lineB, debs, cres, deb, cre, e1]
    omega
  unfold checkE; rw [this]; rfl
theorem rows_ok {n p : Int} {A : Option Addr} (hn : 1 ≤ n ∧ n ≤ 100000000000) (hp : 0 ≤ p ∧ p ≤ 399) {h : Hp} (sl : Sl kItem h A 2 (two n)) : ∀ x ∈ table p A,
    ∃ xs : List SItem, xs.length = x.n ∧ Sl kItem h x.A x.cap xs ∧ postE [] x.id x.per x.kind x.of xs = x.err ∧ x.err ≠ 0 := by
  intro x hx
  have s1 : Sl kItem h A 2 [⟨1, n⟩] := sl.take 1
  simp only [table, List.mem_cons, List.not_mem_nil, or_false] at hx
  rcases hx with rfl | rfl | rfl | rfl | rfl | rfl | rfl
  · exact ⟨two n, rfl, sl, postE_args (by simp only [argsBad, tl_data]; rfl), by simp⟩
  · exact ⟨two n, rfl, sl, postE_args (by simp [argsBad]), by simp⟩
  · exact ⟨two n, rfl, sl, postE_args (by simp [argsBad]), by simp⟩
  · exact ⟨two n, rfl, sl, postE_args (by simp [argsBad]), by simp⟩
  · exact ⟨two n, rfl, sl, postE_args (by simp [argsBad]), by simp⟩
  · exact ⟨two n, rfl, sl, postE_lines (argsBad_rev (by rw [aa]; decide) hp) (linesE_rev rfl (by simp)) (by simp), by simp⟩
  · exact ⟨[⟨1, n⟩], rfl, s1, postE_lines (argsBad_prov (by rw [aa]; decide) hp) (by rw [linesE_prov, one_check hn]) (by simp), by simp⟩
def J1 (n p : Int) : SJ := ⟨1, a, p, 1, 0, two n⟩
variable {n p : Int}
theorem two_money (h : 1 ≤ n ∧ n ≤ 100000000000) : ∀ x ∈ two n, money x.amt = true := by
  intro x hx
  simp only [two, List.mem_cons, List.not_mem_nil, or_false] at hx
  rcases hx with rfl | rfl <;> simp [money] <;> omega
theorem bal (h : 1 ≤ n ∧ n ≤ 100000000000) (hp : 0 ≤ p ∧ p ≤ 399) : balance [J1 n p] a 1 399 = n := by
  have e : share a 1 399 (J1 n p) = netF (two n) 1 := share_in (x := J1 n p) rfl hp.2
  have f : fewB (two n) = true := few_of (by simp [two]) (two_money h)
  simp only [balance, List.map_cons, List.map_nil, List.sum_cons, List.sum_nil, e, netF, f, if_true]
  simp [two, accSum]
theorem q1 (h : 1 ≤ n ∧ n ≤ 100000000000) (hp : 0 ≤ p ∧ p ≤ 399) : postE [] a p 1 0 (two n) = 0 :=
  postE_prov (by rw [aa]; decide) hp (two_check h) (by decide) (fun z hz => by rw [balance_nil, Int.zero_add]; exact two_money h z hz)
theorem q2 (h : 1 ≤ n ∧ n ≤ 100000000000) (hp : 0 ≤ p ∧ p ≤ 399) : postE [J1 n p] a p 2 1 (two n) = 2 :=
  postE_lines (argsBad_rev (by rw [aa]; decide) hp) (linesE_revForm (x := J1 n p) (by
    have hf : revX [J1 n p] 1 = some (J1 n p) := rfl
    unfold revE; rw [hf]; show (if badX _ _ _ = true then _ else _) = _; rw [if_neg (by simp [badX, J1])]; rfl) rfl (two_check h) (by
    simp only [two, reverseL, J1, List.map_cons, ne_eq, List.cons.injEq, SItem.mk.injEq, wrap64]; omega)) (by decide)
theorem q3 (h : 1 ≤ n ∧ n ≤ 100000000000) (hp : 0 ≤ p ∧ p ≤ 399) : postE [J1 n p] a 0 1 0 (two 100000000000) = 6 :=
  postE_over (argsBad_prov (by rw [aa]; decide) (by omega)) (by rw [linesE_prov]; exact two_check (by omega)) (by simp) (x := ⟨1, 100000000000⟩) (by simp [two]) (by
    show money (balance [J1 n p] a 1 399 + 100000000000) = false
    rw [bal h hp]; simp [money]; omega)
theorem q4 (_h : 1 ≤ n ∧ n ≤ 100000000000) (_hp : 0 ≤ p ∧ p ≤ 399) : postE [J1 n p] b 0 1 0 (two 100000000000) = 0 :=
  postE_prov (by rw [bb]; decide) (by omega) (two_check (by omega)) (by simp) (fun z hz => by
    have e : balance [J1 n p] b z.kind 399 = 0 := by
      simp only [balance, List.map_cons, List.map_nil, List.sum_cons, List.sum_nil, share_out (show (J1 n p).ent.toList ≠ b.toList by rw [bb]; show a.toList ≠ _; rw [aa]; decide)]; rfl
    rw [e, Int.zero_add]; exact two_money (by omega) z hz)
end Errs
end Go.Sl
namespace Go.Proofs.Ytnpnndifhlihhaa
open Go.RowKit Go.Sl
set_option maxHeartbeats 4000000
set_option maxRecDepth 100000
theorem storeErrors_calls (n0 p0 : Int) (w : World) : Calls Try.prog 8 #[.int .i64 n0, .int .i64 p0] w fun e w' => e = .returned (.bool true) ∧ Below w.heap.size w w' := by
  have E0 := Env.start w
  have r1 := within_lo n0 (n := 100000000000) (by omega)
  have r2 := within_hi n0 (n := 100000000000) (by omega)
  have r3 := within_lo p0 (n := 400) (by omega)
  have r4 := within_hi p0 (n := 400) (by omega)
  have CW := fun W : World => within_calls n0 100000000000 W (by omega) (by omega)
  have CP := fun W : World => within_calls p0 400 W (by omega) (by omega)
  generalize within n0 100000000000 = m at *
  generalize within p0 400 = p at *
  have hn : 1 ≤ 1 + m ∧ 1 + m ≤ 100000000000 := by omega
  have hp : 0 ≤ p ∧ p ≤ 399 := by omega
  have RO := fun {A h} => Lib.hid (Errs.rows_ok (A := A) (h := h) hn hp)
  have q1 := Lib.hid (Errs.q1 hn hp)
  have q2 := Lib.hid (Errs.q2 hn hp)
  have q3 := Lib.hid (Errs.q3 hn hp)
  have q4 := Lib.hid (Errs.q4 hn hp)
  clear hn hp
  go_enter Try.func8, Try.ntmps8
  go_wp2_with fail
  refine (Sto.new E0).mono ?_
  rintro e w1 ⟨h0, s, rfl, S0, E1⟩
  try simp at E1
  go_wp2_with fail
  refine (CW _).mono ?_
  rintro e w' ⟨rfl, rfl⟩
  go_wp2_with fail
  refine (CP _).mono ?_
  rintro e w' ⟨rfl, rfl⟩
  go_wp2
  have E2 := E1.alloc (.cells #[.int .i64 1, .int .i64 (1 + m), .int .i64 2, .int .i64 (-(1 + m))] 39)
  have sl2 : Sl kItem (Hp.one w1.heap.size (.cells #[.int .i64 1, .int .i64 (1 + m), .int .i64 2, .int .i64 (-(1 + m))] 39)) (some ⟨w1.heap.size, 0, none⟩) 2 (Errs.two (1 + m)) := Sl.lit (xs := Errs.two (1 + m)) (Hp.one_self _ _) (show 2 ≤ maxLen by unfold maxLen; decide)
  generalize hL : Hp.one w1.heap.size (.cells #[.int .i64 1, .int .i64 (1 + m), .int .i64 2, .int .i64 (-(1 + m))] 39) = hl at *
  have E3 := E2.new (Upd.newBlock _ (.cells ((Errs.table p (some ⟨w1.heap.size, 0, none⟩)).flatMap Errs.SRow.cells).toArray 60))
  have st : Sl Errs.kRow (Hp.one (w1.alloc (.cells #[.int .i64 1, .int .i64 (1 + m), .int .i64 2, .int .i64 (-(1 + m))] 39)).heap.size (.cells ((Errs.table p (some ⟨w1.heap.size, 0, none⟩)).flatMap Errs.SRow.cells).toArray 60)) (some ⟨(w1.alloc (.cells #[.int .i64 1, .int .i64 (1 + m), .int .i64 2, .int .i64 (-(1 + m))] 39)).heap.size, 0, none⟩) 7 (Errs.table p (some ⟨w1.heap.size, 0, none⟩)) := Sl.lit (xs := Errs.table p (some ⟨w1.heap.size, 0, none⟩)) (Hp.one_self _ _) (show 7 ≤ maxLen by unfold maxLen; decide)
  generalize hT : Hp.one (w1.alloc (.cells #[.int .i64 1, .int .i64 (1 + m), .int .i64 2, .int .i64 (-(1 + m))] 39)).heap.size (.cells ((Errs.table p (some ⟨w1.heap.size, 0, none⟩)).flatMap Errs.SRow.cells).toArray 60) = ht at *
  clear hL hT
  have hz : (w1.alloc (.cells #[.int .i64 1, .int .i64 (1 + m), .int .i64 2, .int .i64 (-(1 + m))] 39)).heap.size = w1.heap.size + 1 := by simp
  rw [hz] at st
  clear hz
  have EX := RO sl2
  go_loopw [55] (fun i wr => ∃ (j : Nat) (hS : Hp), j ≤ 7 ∧ i = .int .i64 j ∧ Sto hS s [] ∧ Env w wr [hS, hl, ht]) (fun i _ => 7 - (intOf i).toNat)
  case atStart => exact ⟨0, h0, by omega, rfl, S0, E3⟩
  case round =>
    obtain ⟨j, hS, hj, rfl, S, E⟩ := hrel
    by_cases hlt : j < 7
    · obtain ⟨x, hx⟩ := some_of_lt (show j < (Errs.table p (some ⟨w1.heap.size, 0, none⟩)).length from hlt)
      obtain ⟨xs, hxl, slx, hE, hE0⟩ := EX x (List.mem_of_getElem? hx.out)
      obtain ⟨b1, o1, e1, c1, c2, c3, c4, c5, c6⟩ := st.errRow (E.sub 2 rfl) hx
      cases e1
      rw [Nat.zero_add] at c1 c2 c3 c4 c5 c6
      have i1 : (0 : Int) ≤ (j : Int) := by omega
      have i2 : (j : Int) < 7 := by omega
      have hE' := Lib.hid hE
      have hl' := Lib.hid hxl
      clear hE hxl hlt
      go_wp2_with fail
      refine (S.post_no (E.alloc _) 0 rfl slx ((E.alloc _).sub 1 rfl) _ hl'.out hE'.out hE0).mono ?_
      rintro e w2 ⟨h2, rfl, S2, E4⟩
      have kb : w2.heap[wr.heap.size]? = _ := E4.sub 3 rfl _ _ (Hp.one_self _ _)
      have c5' : w2.cell? ⟨wr.heap.size, 5, none⟩ = some (.int .i64 x.err) := by rw [cell_of_row w2 _ 5 _ _ _ kb]; rfl
      clear kb
      go_wp2_with fail
      refine (S2.journals E4 0 rfl).mono ?_
      rintro e w3 ⟨C3, n3, h3, rfl, o3, E5⟩
      try simp at E5
      go_wp2
      go_roundw
      case rel => exact ⟨j + 1, h2, by omega, by go_num, S2, (E5.drop 4).drop 3⟩
      case measure => simp [intOf]; omega
    · obtain rfl : j = 7 := by omega
      clear EX RO st
      go_wp2_with fail
      refine (S.post_ok E 0 rfl sl2 (E.sub 1 rfl) 2 rfl q1.out 1 rfl).mono ?_
      rintro e w2 ⟨h2, rfl, S2, E4⟩
      try simp at E4
      go_wp2_with fail
      refine (S2.post_no E4 0 rfl sl2 (E4.sub 1 rfl) 2 rfl q2.out (by decide)).mono ?_
      rintro e w3 ⟨h3, rfl, S3, E5⟩
      try simp at E5
      go_wp2_with fail
      have E6 := E5.alloc (.cells ((Errs.two 100000000000).flatMap SItem.cells).toArray 39)
      simp at E6
      refine (S3.post_no E6 0 rfl (xs := Errs.two 100000000000) (Sl.lit (Hp.one_self _ _) (show 2 ≤ maxLen by unfold maxLen; decide)) (E6.sub 3 rfl) 2 rfl q3.out (by decide)).mono ?_
      rintro e w4 ⟨h4, rfl, S4, E7⟩
      try simp at E7
      go_wp2_with fail
      have E8 := E7.alloc (.cells ((Errs.two 100000000000).flatMap SItem.cells).toArray 39)
      refine (S4.post_ok E8 0 rfl (xs := Errs.two 100000000000) (Sl.lit (Hp.one_self _ _) (show 2 ≤ maxLen by unfold maxLen; decide)) (E8.sub 4 rfl) 2 rfl q4.out 2 rfl).mono ?_
      rintro e w5 ⟨h5, rfl, S5, E9⟩
      go_wp2_with fail
      refine (S5.journals E9 0 rfl).mono ?_
      rintro e w6 ⟨C6, n6, h6, rfl, o6, E10⟩
      try simp at E10
      go_wp2_with fail
      refine (wakes07 _).mono ?_
      rintro e w7 ⟨rfl, b7⟩
      go_wp2
      go_ret
      exact ⟨rfl, E10.low.trans (b7.mono E10.low.size)⟩
end Go.Proofs.Ytnpnndifhlihhaa
end
section
/- The law StoreMany, plain facts and walk. -/
namespace Go.Sl
open Go.RowKit Go.Proofs.Ytnpnndifhlihhaa
namespace Many
open Errs (a b aa bb)
def ln (n : Int) (i : Nat) : List SItem := [⟨1, n⟩, ⟨2 + (i : Int) % 6, -n⟩]
def J (n : Int) (i : Nat) : SJ := ⟨i + 1, a, (i : Int) % 8, 1, 0, ln n i⟩
def to (n : Int) : Nat → List SJ
  | 0 => []
  | i + 1 => to n i ++ [J n i]
theorem to_len (n : Int) : ∀ i, (to n i).length = i
  | 0 => rfl
  | i + 1 => by simp [to, to_len n i]
/-- What the i-th journal gives to an account. -/
def c (k u : Int) (i : Nat) : Int := if (i : Int) % 8 ≤ u then (if 1 = k then 1 else 0) - (if 2 + (i : Int) % 6 = k then 1 else 0) else 0
def cnt (k u : Int) : Nat → Int
  | 0 => 0
  | i + 1 => cnt k u i + c k u i
variable {n : Int}
theorem ln_money (h : 1 ≤ n ∧ n ≤ 1000) (i : Nat) : ∀ x ∈ ln n i, money x.amt = true := by
  intro x hx
  simp only [ln, List.mem_cons, List.not_mem_nil, or_false] at hx
  rcases hx with rfl | rfl <;> simp [money] <;> omega
theorem ln_net (h : 1 ≤ n ∧ n ≤ 1000) (i : Nat) (k : Int) : netF (ln n i) k = ((if 1 = k then 1 else 0) - (if 2 + (i : Int) % 6 = k then 1 else 0)) * n := by
  have f : fewB (ln n i) = true := few_of (by simp [ln]) (ln_money h i)
  unfold netF
  rw [if_pos f]
  simp only [ln, accSum]
  have e1 : (if (1 : Int) = k then n else 0) = (if (1 : Int) = k then 1 else 0) * n := by split <;> simp
  have e2 : (if 2 + (i : Int) % 6 = k then -n else 0) = -((if 2 + (i : Int) % 6 = k then 1 else 0) * n) := by split <;> simp
  rw [e1, e2, Int.sub_mul]; omega
theorem share_c (h : 1 ≤ n ∧ n ≤ 1000) (i : Nat) (k u : Int) : share a k u (J n i) = c k u i * n := by
  unfold c
  by_cases hp : (i : Int) % 8 ≤ u
  · rw [if_pos hp, ← ln_net h i k]; exact share_in (x := J n i) rfl hp
  · rw [if_neg hp, Int.zero_mul]; exact share_late (x := J n i) (by show u < (i : Int) % 8; omega)
theorem bal (h : 1 ≤ n ∧ n ≤ 1000) (k u : Int) : ∀ i, balance (to n i) a k u = cnt k u i * n
  | 0 => by simp [to, balance, cnt]
  | i + 1 => by rw [to, balance_snoc, bal h k u i, share_c h, cnt, Int.add_mul]
theorem balB (k u : Int) : ∀ i, balance (to n i) b k u = 0
  | 0 => by simp [to, balance]
  | i + 1 => by
    rw [to, balance_snoc, balB k u i, share_out (show (J n i).ent.toList ≠ b.toList by rw [bb]; show a.toList ≠ _; rw [aa]; decide)]; rfl
theorem cnt_bd (k u : Int) : ∀ i : Nat, -(i : Int) ≤ cnt k u i ∧ cnt k u i ≤ i
  | 0 => by simp [cnt]
  | i + 1 => by
    have h1 := cnt_bd k u i
    have h2 : -1 ≤ c k u i ∧ c k u i ≤ 1 := by
      unfold c; split
      · split <;> split <;> omega
      · omega
    simp only [cnt]; omega
theorem bal_bd (h : 1 ≤ n ∧ n ≤ 1000) (k u : Int) {i : Nat} (hi : i ≤ 200) : -200000 ≤ balance (to n i) a k u ∧ balance (to n i) a k u ≤ 200000 := by
  rw [bal h]
  have h1 := cnt_bd k u i
  have h2 : cnt k u i * n ≤ 200 * n := Int.mul_le_mul_of_nonneg_right (by omega) (by omega)
  have h3 : -200 * n ≤ cnt k u i * n := Int.mul_le_mul_of_nonneg_right (by omega) (by omega)
  omega
theorem ln_check (h : 1 ≤ n ∧ n ≤ 1000) (i : Nat) : checkE (ln n i) = 0 := by
  have e1 : money n = true := by simp [money]; omega
  have e2 : money (-n) = true := by simp [money]; omega
  refine check_of ?_
  simp [checkB, ln, risingB, lineB, debs, cres, deb, cre, e1, e2]
  omega
theorem step (h : 1 ≤ n ∧ n ≤ 1000) {i : Nat} (hi : i < 200) : postE (to n i) a ((i : Int) % 8) 1 0 (ln n i) = 0 :=
  postE_prov (by rw [aa]; decide) (by omega) (ln_check h i) (by rw [to_len]; exact hi) (fun x hx => by
    have h1 := bal_bd h x.kind 399 (i := i) (by omega)
    have h2 : -1000 ≤ x.amt ∧ x.amt ≤ 1000 := by
      simp only [ln, List.mem_cons, List.not_mem_nil, or_false] at hx
      rcases hx with rfl | rfl <;> simp <;> omega
    simp [money]; omega)
theorem lim0 : postE (to n 200) a 0 1 0 [] = 5 :=
  postE_limit (argsBad_prov (by rw [aa]; decide) (by omega)) (by rw [linesE_prov]; decide) (by rw [to_len]; omega)
theorem find1 (p : SJ → Bool) (hp : p (J n 0) = true) : ∀ i, (to n (i + 1)).find? p = some (J n 0)
  | 0 => by simp [to, hp]
  | i + 1 => by rw [to, List.find?_append, find1 p hp i]; rfl
theorem none2 : ∀ i, (to n i).any (fun j => j.kind == 2 && j.of == 1) = false
  | 0 => rfl
  | i + 1 => by rw [to, List.any_append, none2 i]; rfl
def rev (n : Int) : List SItem := [⟨1, -n⟩, ⟨2, n⟩]
theorem lim1 (h : 1 ≤ n ∧ n ≤ 1000) : postE (to n 200) a 0 2 1 (rev n) = 5 := by
  have hx : revX (to n 200) 1 = some (J n 0) := find1 _ (by simp [J]) 199
  have e1 : money n = true := by simp [money]; omega
  have e2 : money (-n) = true := by simp [money]; omega
  refine postE_limit (argsBad_rev (by rw [aa]; decide) (by omega)) (linesE_revOk (x := J n 0) ?_ hx ?_ ?_) (by rw [to_len]; omega)
  · unfold revE; rw [hx]; show (if badX _ _ _ = true then _ else _) = _; rw [if_neg (by simp [badX, J]), none2]; rfl
  · refine check_of ?_
    simp [checkB, rev, risingB, lineB, debs, cres, deb, cre, e1, e2]
    omega
  · simp only [rev, J, ln, reverseL, List.map_cons, List.map_nil, wrap64, List.cons.injEq, SItem.mk.injEq, true_and, and_true]
    omega
theorem b7 (h : 1 ≤ n ∧ n ≤ 1000) : balance (to n 200) a 1 7 = n * 200 := by
  rw [bal h, show cnt 1 7 200 = 200 by decide +kernel]; omega
theorem b3 (h : 1 ≤ n ∧ n ≤ 1000) : balance (to n 200) a 1 3 = n * 200 / 2 := by
  rw [bal h, show cnt 1 3 200 = 100 by decide +kernel]; omega
theorem trialTo_full {f : Int → Int} : ∀ m : Nat, (∀ k : Int, 1 ≤ k → k ≤ m → f k ≠ 0) → (trialTo f m).length = m
  | 0, _ => rfl
  | m + 1, h => by rw [trialTo_yes (h (m + 1) (by omega) (by omega)), List.length_append, trialTo_full m fun k a b => h k a (by omega)]; rfl
theorem t7 (h : 1 ≤ n ∧ n ≤ 1000) : (trial (to n 200) a 7).length = 7 := by
  refine trialTo_full 7 fun k h1 h7 => ?_
  have hk : k = 1 ∨ k = 2 ∨ k = 3 ∨ k = 4 ∨ k = 5 ∨ k = 6 ∨ k = 7 := by omega
  show balance (to n 200) a k 7 ≠ 0
  rw [bal h]
  have : cnt k 7 200 ≠ 0 := by rcases hk with rfl | rfl | rfl | rfl | rfl | rfl | rfl <;> decide +kernel
  exact Int.mul_ne_zero this (by omega)
theorem tB : trial (to n 200) b 7 = [] := trial_none fun k _ _ => balB k 7 200
end Many
end Go.Sl
namespace Go.Proofs.Ytnpnndifhlihhaa
open Go.RowKit Go.Sl
set_option maxHeartbeats 4000000
set_option maxRecDepth 100000
theorem storeMany_calls (n0 : Int) (w : World) : Calls Try.prog 9 #[.int .i64 n0] w fun e w' => e = .returned (.bool true) ∧ Below w.heap.size w w' := by
  have E0 := Env.start w
  have r1 := within_lo n0 (n := 1000) (by omega)
  have r2 := within_hi n0 (n := 1000) (by omega)
  have CW := fun W : World => within_calls n0 1000 W (by omega) (by omega)
  generalize within n0 1000 = m at *
  have hn : 1 ≤ 1 + m ∧ 1 + m ≤ 1000 := by omega
  have ST := fun {i : Nat} (h : i < 200) => Many.step hn h
  have l0 := Lib.hid (Many.lim0 (n := 1 + m))
  have l1 := Lib.hid (Many.lim1 hn)
  have b7 := Lib.hid (Many.b7 hn)
  have b3 := Lib.hid (Many.b3 hn)
  have t7 := Lib.hid (Many.t7 hn)
  have tB := Lib.hid (Many.tB (n := 1 + m))
  clear hn
  go_enter Try.func9, Try.ntmps9
  go_wp2_with fail
  refine (Sto.new E0).mono ?_
  rintro e w1 ⟨h0, s, rfl, S0, E1⟩
  try simp at E1
  go_wp2_with fail
  refine (CW _).mono ?_
  rintro e w' ⟨rfl, rfl⟩
  go_wp2
  go_loopw [4] (fun i wr => ∃ (j : Nat) (hS : Hp), j ≤ 200 ∧ i = .int .i64 j ∧ Sto hS s (Many.to (1 + m) j) ∧ Env w wr [hS]) (fun i _ => 200 - (intOf i).toNat)
  case atStart => exact ⟨0, h0, by omega, rfl, S0, E1⟩
  case round =>
    obtain ⟨j, hS, hj, rfl, S, E⟩ := hrel
    by_cases hlt : j < 200
    · have i1 : (0 : Int) ≤ (j : Int) := by omega
      have i2 : (j : Int) < 200 := by omega
      have hE := Lib.hid (ST hlt)
      have hlen := Lib.hid (Many.to_len (1 + m) j)
      clear hlt
      go_wp2_with fail
      have E2 := E.alloc (.cells ((Many.ln (1 + m) j).flatMap SItem.cells).toArray 39)
      simp at E2
      refine (S.post_ok E2 0 rfl (xs := Many.ln (1 + m) j) (Sl.lit (Hp.one_self _ _) (show 2 ≤ maxLen by unfold maxLen; decide)) (E2.sub 1 rfl) 2 rfl hE.out (j + 1) (by rw [hlen.out])).mono ?_
      rintro e w2 ⟨h2, rfl, S2, E3⟩
      try simp at E3
      go_wp2
      go_roundw
      case rel => exact ⟨j + 1, h2, by omega, by go_num, S2, E3.drop 1⟩
      case measure => simp [intOf]; omega
    · obtain rfl : j = 200 := by omega
      clear ST
      go_wp2_with fail
      refine (S.post_no E 0 rfl (Sl.none kItem Hp.none) (Hp.none_sub _) 0 rfl l0.out (by decide)).mono ?_
      rintro e w2 ⟨h2, rfl, S2, E2⟩
      try simp at E2
      go_wp2_with fail
      have E3 := E2.alloc (.cells ((Many.rev (1 + m)).flatMap SItem.cells).toArray 39)
      simp at E3
      refine (S2.post_no E3 0 rfl (xs := Many.rev (1 + m)) (Sl.lit (Hp.one_self _ _) (show 2 ≤ maxLen by unfold maxLen; decide)) (E3.sub 1 rfl) 2 rfl l1.out (by decide)).mono ?_
      rintro e w3 ⟨h3, rfl, S3, E4⟩
      go_wp2_with fail
      refine (S3.balance E4 0 rfl b7.out).mono ?_
      rintro e w4 ⟨rfl, E5⟩
      try simp at E5
      go_wp2_with fail
      refine (S3.balance E5 0 rfl b3.out).mono ?_
      rintro e w5 ⟨rfl, E6⟩
      try simp at E6
      go_wp2_with fail
      refine (S3.trial (ent := Errs.a) E6 0 rfl rfl).mono ?_
      rintro e w6 ⟨C6, n6, h6, rfl, o6, E7⟩
      try simp at E7
      rw [t7.out]
      go_wp2_with fail
      refine (S3.trial E7 0 rfl tB.out).mono ?_
      rintro e w7 ⟨C7, n7, h7, rfl, o7, E8⟩
      try simp at E8
      go_wp2_with fail
      refine (wakes07 _).mono ?_
      rintro e w8 ⟨rfl, b8⟩
      go_wp2
      go_ret
      exact ⟨rfl, E8.low.trans (b8.mono E8.low.size)⟩
end Go.Proofs.Ytnpnndifhlihhaa
end
section
/- keep.Same over api.Line: the same things? -/
namespace Go.Proofs.Ytnpnndifhlihhaa
open Go.RowKit Go.Sl
set_option maxHeartbeats 1000000
set_option maxRecDepth 100000
theorem same_line (A B : Option Addr) (ca cb : Nat) (xs ys : List SItem) (h k : Hp) (w : World) (hs : h.sub w) (ks : k.sub w) (sx : Sl kItem h A ca xs) (sy : Sl kItem k B cb ys) :
    Calls Try.prog 27 #[.slice A xs.length ca, .slice B ys.length cb] w fun e w' => e = .returned (.bool (eqB xs ys)) ∧ Below w.heap.size w w' := by
  have m1 := sx.small
  have m2 := sy.small
  by_cases hl : xs.length = ys.length
  · have hl1 : ((xs.length : Int) == (ys.length : Int)) = true := by simp [hl]
    have hl2 : ((xs.length : Int) != (ys.length : Int)) = false := by simp [hl]
    have hL := Lib.hid hl
    clear hl
    go_enter Try.func27, Try.ntmps27
    go_wp2
    clear hl1 hl2
    go_loopw [5] (fun i wr => ∃ j : Nat, j ≤ xs.length ∧ i = .int .i64 j ∧ Hid (xs.take j = ys.take j) ∧ Below w.heap.size w wr) (fun i _ => xs.length - (intOf i).toNat)
    case atStart => exact ⟨0, by omega, rfl, rfl, Below.refl _ _⟩
    case round =>
      obtain ⟨j, hj, rfl, he, hb⟩ := hrel
      by_cases hlt : j < xs.length
      · have hlt2 : j < ys.length := by have := hL.out; omega
        obtain ⟨x, hx⟩ := some_of_lt hlt
        obtain ⟨y, hy⟩ := some_of_lt hlt2
        obtain ⟨b1, o1, rfl, c1, c2⟩ := sx.item (hs.of_below hb) hx
        obtain ⟨b2, o2, rfl, d1, d2⟩ := sy.item (ks.of_below hb) hy
        have hn := ne_line x y
        have i1 : (0 : Int) ≤ (j : Int) := by omega
        have i2 : (j : Int) < (xs.length : Int) := by omega
        have i3 : (j : Int) < (ys.length : Int) := by omega
        have hE := take_both hx hy
        by_cases hxy : x = y
        · have hd := neB_f hxy
          have hE2 := hE.2 ⟨he, hxy⟩
          clear hxy hE
          go_wp2
          go_region_held3 (fun w' => w'.cell? ⟨b1, o1 + j * 2, none⟩ = some (.int .i64 x.kind) ∧ w'.cell? ⟨b1, o1 + j * 2 + 1, none⟩ = some (.int .i64 x.amt) ∧ w'.cell? ⟨b2, o2 + j * 2, none⟩ = some (.int .i64 y.kind) ∧ w'.cell? ⟨b2, o2 + j * 2 + 1, none⟩ = some (.int .i64 y.amt)) (go_keep) (fail)
          go_wp2
          go_roundw
          case rel => exact ⟨j + 1, by omega, by go_num, hE2, hb.drew⟩
          case measure => simp [intOf]; omega
        · have hd := neB_t hxy
          have hne : Hid (xs ≠ ys) := fun e => hxy (by have := hx.out; rw [e, hy.out] at this; exact (Option.some.inj this).symm)
          clear hxy hE
          go_wp2
          go_region_held3 (fun w' => w'.cell? ⟨b1, o1 + j * 2, none⟩ = some (.int .i64 x.kind) ∧ w'.cell? ⟨b1, o1 + j * 2 + 1, none⟩ = some (.int .i64 x.amt) ∧ w'.cell? ⟨b2, o2 + j * 2, none⟩ = some (.int .i64 y.kind) ∧ w'.cell? ⟨b2, o2 + j * 2 + 1, none⟩ = some (.int .i64 y.amt)) (go_keep) (fail)
          go_wp2
          go_ret
          exact ⟨by rw [eqB_f hne.out]; rfl, hb.drew⟩
      · have hfin : Hid (xs = ys) := by
          have h1 := he.out
          have hjl : j = xs.length := by omega
          rw [hjl, List.take_length] at h1
          rw [h1, hL.out, List.take_length]; rfl
        go_wp2
        go_ret
        exact ⟨by rw [eqB_t hfin.out]; rfl, hb⟩
  · have hl1 : ((xs.length : Int) == (ys.length : Int)) = false := by simp; omega
    have hl2 : ((xs.length : Int) != (ys.length : Int)) = true := by simp; omega
    have hne : Hid (xs ≠ ys) := fun e => hl (by rw [e])
    clear hl
    go_enter Try.func27, Try.ntmps27
    go_wp2
    go_ret
    exact ⟨by rw [eqB_f hne.out]; rfl, Below.refl _ _⟩
end Go.Proofs.Ytnpnndifhlihhaa
end
section
/- keep.Copy over api.Line. -/
namespace Go.Proofs.Ytnpnndifhlihhaa
open Go.RowKit Go.Sl
set_option maxHeartbeats 1000000
set_option maxRecDepth 100000
theorem copy_line (A : Option Addr) (ca : Nat) (xs : List SItem) (h : Hp) (w : World) (hs : h.sub w) (sx : Sl kItem h A ca xs) (hl : xs.length ≤ 1000000) :
    Calls Try.prog 25 #[.slice A xs.length ca] w fun e w' => ∃ C cap h', e = .returned (.slice C xs.length cap) ∧ Ow kItem h' C cap xs ∧ Upd Hp.none h' w w' := by
  go_enter Try.func25, Try.ntmps25
  go_wp2_with (at_builtin; refine wpList_clone (B := none) Try.underlying36 info_line (by rfl) (by rfl) rfl xs.length ca (by rfl) (by rfl) rfl kItem_flat sx hs (by omega) (by omega) ?_; intro C' cap' w1 h1 ho1 hu1)
  go_ret
  exact ⟨C', cap', h1, rfl, ho1, hu1⟩
end Go.Proofs.Ytnpnndifhlihhaa
end
section
/- The functions over lines, in a body's own memory. -/
namespace Go.Proofs.Ytnpnndifhlihhaa
open Go.RowKit Go.Sl
set_option maxHeartbeats 1000000
set_option maxRecDepth 100000
section
variable {w0 w : World} {l : List Hp} {k k2 : Hp} {A B : Option Addr} {ca cb : Nat} {xs ys : List SItem}
theorem Lin.right (E : Env w0 w l) {ks ams : List Int} {h1 h2 : Hp} (s1 : h1.sub w0) (s2 : h2.sub w0) (sx : Sl kInt h1 A ca ks) (sy : Sl kInt h2 B cb ams) (hw : ∀ n ∈ ams, I64 n) :
    Calls Try.prog 28 #[.slice A ks.length ca, .slice B ams.length cb] w fun e w' => ∃ C cap h', e = .returned (.slice C (rightL ks ams).length cap) ∧ Ow kItem h' C cap (rightL ks ams) ∧ Env w0 w' (l ++ [h']) :=
  (playRight_calls A B ca cb ks ams h1 h2 w (E.arg s1) (E.arg s2) sx sy hw).mono fun _ _ ⟨C, cap, h', he, ho, u⟩ => ⟨C, cap, h', he, ho, E.new u⟩
theorem Lin.reverse (E : Env w0 w l) (ks : k.sub w) (sx : Sl kItem k A ca xs) (n : Nat) (hn : xs.length = n) (hl : n ≤ 1000000) :
    Calls Try.prog 29 #[.slice A n ca] w fun e w' => ∃ C cap h', e = .returned (.slice C n cap) ∧ Ow kItem h' C cap (reverseL xs) ∧ Env w0 w' (l ++ [h']) := by
  subst hn
  exact (reverse_calls A ca xs k w ks sx hl).mono fun _ _ ⟨C, cap, h', he, ho, u⟩ => ⟨C, cap, h', he, ho, E.new u⟩
theorem Lin.copy (E : Env w0 w l) (ks : k.sub w) (sx : Sl kItem k A ca xs) (n : Nat) (hn : xs.length = n) (hl : n ≤ 1000000) :
    Calls Try.prog 25 #[.slice A n ca] w fun e w' => ∃ C cap h', e = .returned (.slice C n cap) ∧ Ow kItem h' C cap xs ∧ Env w0 w' (l ++ [h']) := by
  subst hn
  exact (copy_line A ca xs k w ks sx hl).mono fun _ _ ⟨C, cap, h', he, ho, u⟩ => ⟨C, cap, h', he, ho, E.new u⟩
theorem Lin.merge (E : Env w0 w l) (ks : k.sub w) (sx : Sl kItem k A ca xs) (n : Nat) (hn : xs.length = n) {q : List SItem} (hq : mergeF xs = q) :
    Calls Try.prog 24 #[.slice A n ca] w fun e w' => ∃ C cap h', e = .returned (.slice C q.length cap) ∧ Ow kItem h' C cap q ∧ Env w0 w' (l ++ [h']) := by
  subst hn
  subst hq
  exact (mergeF_calls A ca xs k w ks sx).mono fun _ _ ⟨C, cap, h', he, ho, u⟩ => ⟨C, cap, h', he, ho, E.new u⟩
theorem Lin.same (E : Env w0 w l) (ks : k.sub w) (ks2 : k2.sub w) (sx : Sl kItem k A ca xs) (sy : Sl kItem k2 B cb ys) (n m : Nat) (hn : xs.length = n) (hm : ys.length = m) (he : xs = ys) :
    Calls Try.prog 27 #[.slice A n ca, .slice B m cb] w fun e w' => e = .returned (.bool true) ∧ Env w0 w' l := by
  subst hn
  subst hm
  exact (same_line A B ca cb xs ys k k2 w ks ks2 sx sy).mono fun _ _ ⟨h1, b⟩ => ⟨by rw [h1, eqB_t he], E.below b⟩
end
end Go.Proofs.Ytnpnndifhlihhaa
end
