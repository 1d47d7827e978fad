/- The walk of store.Post. -/
import Derived.Test.YtnpnndifhlihhaaStoreLines
import Derived.Test.YtnpnndifhlihhaaBalance
import Derived.Deep.RegionLaw
namespace Go.Sl
def argsBad (ent : ByteArray) (p kind of : Int) : Bool := ent.toList.isEmpty || (!decide (0 ≤ p ∧ p ≤ 399) || (!decide (kind = 1 ∨ kind = 2) || decide (kind = 1 ∧ of ≠ 0)))
/-- Is a balance with such a line too great? -/
def overX (js : List SJ) (ent : ByteArray) (x : SItem) : Bool := !money (balance js ent x.kind 399 + x.amt)
def postE (js : List SJ) (ent : ByteArray) (p kind of : Int) (xs : List SItem) : Int :=
  if argsBad ent p kind of = true then 1
  else if linesE js ent p kind of xs ≠ 0 then linesE js ent p kind of xs
  else if 200 ≤ js.length then 5
  else if xs.any (overX js ent) = true then 6 else 0
def postSeq (js : List SJ) (ent : ByteArray) (p kind of : Int) (xs : List SItem) : Int := if postE js ent p kind of xs = 0 then js.length + 1 else 0
def post (js : List SJ) (ent : ByteArray) (p kind of : Int) (xs : List SItem) : List SJ := if postE js ent p kind of xs = 0 then js ++ [⟨js.length + 1, ent, p, kind, of, xs⟩] else js
end Go.Sl
namespace Go.Proofs.Ytnpnndifhlihhaa
open Go.RowKit Go.Sl
set_option maxHeartbeats 1000000
set_option maxRecDepth 100000
theorem linesE_zero {js : List SJ} {ent : ByteArray} {p kind of : Int} {xs : List SItem} (h : linesE js ent p kind of xs = 0) : checkE xs = 0 := by
  unfold linesE at h
  split at h
  · split at h
    · contradiction
    · split at h
      · contradiction
      · simp_all
  · exact h
theorem check_amts {xs : List SItem} (h : checkE xs = 0) : ∀ x ∈ xs, -100000000000 ≤ x.amt ∧ x.amt ≤ 100000000000 := fun x hx => by
  unfold checkE at h
  split at h
  · rename_i hb
    simp only [checkB, Bool.and_eq_true] at hb
    have := lines_money hb.1.2 x hx
    simpa [money] using this
  · cases h
theorem check_len {xs : List SItem} (h : checkE xs = 0) : xs.length ≤ 20 := by
  unfold checkE at h
  split at h
  · rename_i hb
    simp only [checkB, Bool.and_eq_true, decide_eq_true_eq] at hb
    exact hb.1.1
  · cases h
theorem perRight_calls (p : Int) (w : World) : Calls Try.prog 63 #[.int .i64 p] w fun e w' => e = .returned (.bool (decide (0 ≤ p ∧ p ≤ 399))) ∧ w = w' := by
  go_enter Try.func63, Try.ntmps63
  go_wp2
  all_goals
    go_ret
    exact ⟨by simp; omega, rfl⟩
/-- What Post returns. -/
def PostAns (b : Nat) (js : List SJ) (ent : ByteArray) (p kind of : Int) (xs : List SItem) (h : Hp) (w : World) (e : Ending) (w' : World) : Prop :=
  ∃ h', e = .returned (.tuple #[.int .i64 (postSeq js ent p kind of xs), .int .i64 (postE js ent p kind of xs)]) ∧ Pt kSt 93 h' b (post js ent p kind of xs) ∧ Upd h h' w w'
theorem PostAns.no {b : Nat} {js : List SJ} {ent : ByteArray} {p kind of : Int} {xs : List SItem} {h : Hp} {w w' : World} {E : Int} (hE : postE js ent p kind of xs = E) (h0 : E ≠ 0) (hp : Pt kSt 93 h b js) (hs : h.sub w) (hb : Below w.heap.size w w') :
    PostAns b js ent p kind of xs h w (.returned (.tuple #[.int .i64 0, .int .i64 E])) w' :=
  ⟨h, by unfold postSeq; rw [hE, if_neg h0], by unfold post; rw [hE, if_neg h0]; exact hp, ⟨hb.os, hb.tape, hb.output, hb.size, fun q hq _ => hb.block q hq, hs.of_below hb, fun _ hq => .inl hq⟩⟩
theorem post_calls (b : Nat) (js : List SJ) (ent : ByteArray) (per kind of : Int) (h : Hp) (w : World) (hs : h.sub w) (hp : Pt kSt 93 h b js) (hl : js.length ≤ 1000) (hll : ∀ x ∈ js, x.lines.length ≤ 1000000)
    (D : Option Addr) (cd : Nat) (xs : List SItem) (k : Hp) (ks : k.sub w) (sy : Sl kItem k D cd xs) :
    Calls Try.prog 39 #[.pointer (some ⟨b, 0, none⟩), .string ent, .int .i64 per, .int .i64 kind, .int .i64 of, .slice D xs.length cd] w (PostAns b js ent per kind of xs h w) := by
  obtain ⟨cs, hb, A, ca, rfl, ow⟩ := hp
  have hp : Pt kSt 93 h b js := ⟨_, hb, A, ca, rfl, ow⟩
  have hbw := hs b _ hb
  have hd := hs.del b
  have hc : w.cell? ⟨b, 0, none⟩ = some (.slice A js.length ca) := by rw [cell_of_row w b 0 _ _ _ hbw]; rfl
  have LC := fun (W : World) (hW : Below w.heap.size w W) => lines_calls b A ca js ent per kind of (h.del b) W (hd.of_below hW) ((hW.cell (World.block_lt_of_cell? w _ hc)).trans hc) ow.sl (by omega) hll D cd xs k (ks.of_below hW) sy
  cases hE0 : ent.toList.isEmpty with
  | true =>
    have HE : Hid (postE js ent per kind of xs = 1) := by unfold Hid postE; rw [if_pos (by simp [argsBad, hE0])]
    have hE1 : ent.toList = [] := by simpa using hE0
    clear LC
    go_enter Try.func39, Try.ntmps39
    go_wp2
    go_ret2
    exact .no HE.out (by decide) hp hs (Below.refl _ _)
  | false =>
  cases hP0 : decide (0 ≤ per ∧ per ≤ 399) with
  | false =>
    have HE : Hid (postE js ent per kind of xs = 1) := by unfold Hid postE; rw [if_pos (by simp only [argsBad, hE0, hP0]; rfl)]
    have PC := fun W => perRight_calls per W
    rw [hP0] at PC
    clear LC hP0
    go_enter Try.func39, Try.ntmps39
    go_wp2_with (go_at_call 63; refine (PC _).mono ?_; rintro e w' ⟨rfl, rfl⟩)
    go_ret2
    exact .no HE.out (by decide) hp hs (Below.refl _ _)
  | true =>
  have PC := fun W => perRight_calls per W
  rw [hP0] at PC
  have hk : (kind = 1 ∧ of ≠ 0 ∨ kind ≠ 1 ∧ kind ≠ 2) ∨ (kind = 1 ∧ of = 0 ∨ kind = 2) := by omega
  rcases hk with hk | hk
  · have HE : Hid (postE js ent per kind of xs = 1) := by
      unfold Hid postE; rw [if_pos]
      simp only [argsBad, hE0, hP0]
      rcases hk with ⟨h1, h2⟩ | ⟨h1, h2⟩ <;> simp [h1, h2]
    clear LC hP0
    rcases hk with ⟨rfl, h2⟩ | ⟨h1, h2⟩
    · have h2b : (of != 0) = true := by simpa using h2
      clear h2
      go_enter Try.func39, Try.ntmps39
      go_wp2_with (go_at_call 63; refine (PC _).mono ?_; rintro e w' ⟨rfl, rfl⟩)
      go_ret2
      exact .no HE.out (by decide) hp hs (Below.refl _ _)
    · have h1b : (kind != 1) = true := by simpa using h1
      have h2b : (kind != 2) = true := by simpa using h2
      clear h1 h2
      go_enter Try.func39, Try.ntmps39
      go_wp2_with (go_at_call 63; refine (PC _).mono ?_; rintro e w' ⟨rfl, rfl⟩)
      go_ret2
      exact .no HE.out (by decide) hp hs (Below.refl _ _)
  have hA : argsBad ent per kind of = false := by
    simp only [argsBad, hE0, hP0]
    rcases hk with ⟨h1, h2⟩ | h1 <;> simp [h1, *]
  have HP : Hid (postE js ent per kind of xs = if linesE js ent per kind of xs ≠ 0 then linesE js ent per kind of xs else if 200 ≤ js.length then 5 else if xs.any (overX js ent) = true then 6 else 0) := by
    unfold Hid postE; rw [if_neg (by rw [hA]; decide)]
  have GO : (kind = 1 ∧ of = 0 ∨ kind = 2) → True := fun _ => trivial
  clear hA hP0 GO
  by_cases hL : linesE js ent per kind of xs = 0
  · have hamt := Lib.hid (check_amts (linesE_zero hL))
    have hxlen := check_len (linesE_zero hL)
    rw [hL] at LC
    have HP2 : Hid (postE js ent per kind of xs = if 200 ≤ js.length then 5 else if xs.any (overX js ent) = true then 6 else 0) := by unfold Hid; rw [HP.out, hL]; rfl
    clear HP hL
    by_cases h2 : 200 ≤ js.length
    · have HE : Hid (postE js ent per kind of xs = 5) := by unfold Hid; rw [HP2.out, if_pos h2]
      clear HP2
      rcases hk with ⟨rfl, rfl⟩ | rfl
      all_goals
        go_enter Try.func39, Try.ntmps39
        go_wp2_with (go_at_call 63; refine (PC _).mono ?_; rintro e w' ⟨rfl, rfl⟩)
        refine (LC _ (Below.refl _ _)).mono ?_
        rintro e w1 ⟨rfl, b1⟩
        have hc1 := (b1.cell (p := ⟨b, 0, none⟩) (World.block_lt_of_cell? w _ hc)).trans hc
        go_wp2
        go_ret2
        exact .no HE.out (by decide) hp hs b1
    · have hbx := fun a : Int => balance_bd ent a 399 js
      have hov : Hid (∀ y ∈ xs.take 0, overX js ent y = false) := by unfold Hid; simp
      have h2b : decide (200 ≤ (js.length : Int)) = false := by simp; omega
      have BCr := fun (a : Int) (W : World) (hW : Below w.heap.size w W) => balance_calls b A ca js ent a 399 (h.del b) W (hd.of_below hW) ((hW.cell (World.block_lt_of_cell? w _ hc)).trans hc) ow.sl hl
      have m1 := sy.small
      rcases hk with ⟨rfl, rfl⟩ | rfl
      · go_enter Try.func39, Try.ntmps39
        go_wp2_with (go_at_call 63; refine (PC _).mono ?_; rintro e w' ⟨rfl, rfl⟩)
        refine (LC _ (Below.refl _ _)).mono ?_
        rintro e w1 ⟨rfl, b1⟩
        have hc1 := (b1.cell (p := ⟨b, 0, none⟩) (World.block_lt_of_cell? w _ hc)).trans hc
        go_wp2
        go_loopw [59] (fun i wr => ∃ (j : Nat), j ≤ xs.length ∧ i = .int .i64 j ∧ Hid (∀ y ∈ xs.take j, overX js ent y = false) ∧ Below w.heap.size w wr) (fun i _ => xs.length - (intOf i).toNat)
        case atStart => exact ⟨0, by omega, rfl, hov, b1⟩
        case round =>
          obtain ⟨j, hj, rfl, hn, hbr⟩ := hrel
          have hc2 := (hbr.cell (p := ⟨b, 0, none⟩) (World.block_lt_of_cell? w _ hc)).trans hc
          have hzr := hbr.size
          by_cases hlt : j < xs.length
          · obtain ⟨x, hx⟩ := some_of_lt hlt
            obtain ⟨b2, o2, rfl, c1, c2⟩ := sy.item (ks.of_below hbr) hx
            have i1 : (0 : Int) ≤ (j : Int) := by omega
            have i2 : (j : Int) < (xs.length : Int) := by omega
            have hX := hamt.out x (List.mem_of_getElem? hx.out)
            have hB := hbx x.kind
            obtain ⟨q1, q2⟩ : -4000000000000000 ≤ balance js ent x.kind 399 ∧ balance js ent x.kind 399 ≤ 4000000000000000 := by omega
            clear hB
            have HO : Hid (overX js ent x = !money (balance js ent x.kind 399 + x.amt)) := rfl
            have BCx := BCr x.kind
            generalize balance js ent x.kind 399 = v at *
            have hwp : IntKind.i64.wrap (v + x.amt) = v + x.amt := by rw [IntKind.wrap_i64]; omega
            cases hm : money (v + x.amt) with
            | true =>
              have HN : Hid (∀ y ∈ xs.take (j + 1), overX js ent y = false) := by
                intro y hy
                rw [take_next hx] at hy
                rcases List.mem_append.1 hy with hy | hy
                · exact hn.out y hy
                · simp at hy; subst hy; rw [HO.out, hm]; rfl
              clear HP2
              go_wp2
              go_region_held3 (fun w' => w'.cell? ⟨wr.heap.size, 0, none⟩ = some (.int .i64 x.kind) ∧ w'.cell? ⟨wr.heap.size, 1, none⟩ = some (.int .i64 x.amt))
                (first | go_keep | (go_split_ands; exact ⟨(b3.cell (by simp)).trans (by simp), (b3.cell (by simp)).trans (by simp)⟩))
                (first
                  | (go_at_call 42; refine (BCx _ (by repeat (first | exact hbr | apply Below.drew | refine Below.alloc ?_ (by first | (simp; done) | (simp; omega) | omega) _))).mono ?_; rintro e w3 ⟨rfl, b3⟩)
                  | (go_at_call 65; refine (money_calls _ _).mono ?_; rintro e w' ⟨rfl, rfl⟩))
              clear hwp
              go_wp2
              go_roundw
              case rel => exact ⟨j + 1, by omega, by go_num, HN, (by repeat (first | exact hbr | apply Below.drew | refine Below.alloc ?_ (by first | (simp; done) | (simp; omega) | omega) _ | refine Below.trans ?_ (b3.mono (by first | (simp; done) | (simp; omega) | omega))))⟩
              case measure => simp [intOf]; omega
            | false =>
              have HE : Hid (postE js ent per 1 0 xs = 6) := by
                unfold Hid
                rw [HP2.out, if_neg h2, if_pos]
                exact List.any_eq_true.2 ⟨x, List.mem_of_getElem? hx.out, by rw [HO.out, hm]; rfl⟩
              clear HP2
              go_wp2
              go_region_held3 (fun w' => w'.cell? ⟨wr.heap.size, 0, none⟩ = some (.int .i64 x.kind) ∧ w'.cell? ⟨wr.heap.size, 1, none⟩ = some (.int .i64 x.amt))
                (first | go_keep | (go_split_ands; exact ⟨(b3.cell (by simp)).trans (by simp), (b3.cell (by simp)).trans (by simp)⟩))
                (first
                  | (go_at_call 42; refine (BCx _ (by repeat (first | exact hbr | apply Below.drew | refine Below.alloc ?_ (by first | (simp; done) | (simp; omega) | omega) _))).mono ?_; rintro e w3 ⟨rfl, b3⟩)
                  | (go_at_call 65; refine (money_calls _ _).mono ?_; rintro e w' ⟨rfl, rfl⟩))
              clear hwp
              go_wp2
              go_ret2
              exact .no HE.out (by decide) hp hs (by repeat (first | exact hbr | apply Below.drew | refine Below.alloc ?_ (by first | (simp; done) | (simp; omega) | omega) _ | refine Below.trans ?_ (b3.mono (by first | (simp; done) | (simp; omega) | omega))))
          · have hany : xs.any (overX js ent) = false := by
              rw [List.any_eq_false]
              intro y hy
              rw [hn.out y (by rw [List.take_of_length_le (by omega)]; exact hy)]; decide
            have HE := Lib.hid (HP2.out.trans (by rw [if_neg h2, hany, if_neg (by decide)]))
            have OC := fun W (hW : Below w.heap.size w W) => own_calls ⟨js.length + 1, ent, per, 1, 0, xs⟩ D cd k W (ks.of_below hW) sy (show xs.length ≤ 1000000 by omega)
            clear HP2 hany
            have j1 : (0 : Int) ≤ (js.length : Int) := by omega
            have j2 : (js.length : Int) < 200 := by omega
            have hf2 : wr.frozen? ⟨b, 0, none⟩ = false := (hbr.frozen (p := ⟨b, 0, none⟩) (World.block_lt_of_cell? w _ hc)).trans (frozen_of_row w b 0 _ _ hbw)
            have hlb := Nat.lt_of_lt_of_le (World.block_lt_of_cell? w _ hc) hzr
            simp only at hlb
            go_wp2
            go_region_law (first
              | (refine step_app1 (hx := h2) (h := h.del b) (xs := js) (A := A) (cap := ca) (y := ⟨js.length + 1, ent, per, 1, 0, xs⟩) Try.underlying64 info_jou (by rfl) (by rfl) rfl js.length 1 (by rfl) (by rfl) rfl ow (hd.of_below (by repeat (first | exact hbr | apply Below.drew | refine Below.alloc ?_ (by first | (simp; done) | (simp; omega) | omega) _ | refine Below.trans ?_ (u2.below.mono (by first | (simp; done) | (simp; omega) | omega))))) (heap_new_at (by simp)) ⟨C2, cap2, rfl, o2⟩ (u2.sub.of_below (by repeat (first | exact Below.refl _ _ | apply Below.drew | refine Below.alloc ?_ (by simp) _))) (u2.apart (fun _ e => absurd rfl e) (hd.of_below (by repeat (first | exact hbr | apply Below.drew | refine Below.alloc ?_ (by first | (simp; done) | (simp; omega) | omega) _)))).symm (by omega) (by omega) ?_; intro C' cap' w3 h3 ho3 hu3; have hcv : w3.cell? ⟨b, 0, none⟩ = _ := hu3.cell ((cell_alloc (by omega)).trans hcw) (by simp [Hp.or, Hp.del_self, h2n.out]); have hfv : w3.frozen? ⟨b, 0, none⟩ = _ := (hu3.frozen (p := ⟨b, 0, none⟩) (by first | (simp; done) | (simp; omega) | omega) (by simp [Hp.or, Hp.del_self, h2n.out])).trans ((frozen_alloc (by omega)).trans hfw))
              | (rw [if_pos (by rfl)]; go_simp; refine (OC _ (by repeat (first | exact hbr | apply Below.drew | refine Below.alloc ?_ (by first | (simp; done) | (simp; omega) | omega) _))).mono ?_; rintro e w2 ⟨C2, cap2, h2, rfl, o2, u2⟩; dsimp only; have hz2 := u2.size; simp at hz2; have hcw : w2.cell? ⟨b, 0, none⟩ = _ := (u2.below.cell (p := ⟨b, 0, none⟩) (by simp; omega)).trans (by simpa using hc2); have hfw : w2.frozen? ⟨b, 0, none⟩ = _ := (u2.below.frozen (p := ⟨b, 0, none⟩) (by simp; omega)).trans (by simpa using hf2); have h2n : Hid (h2 b = none) := u2.new_none (by first | (simp; done) | (simp; omega) | omega); have hlb2 : b < w2.heap.size := Nat.lt_of_lt_of_le hlb hz2; have hca : ∀ o, (w2.alloc o).cell? ⟨b, 0, none⟩ = some (.slice A js.length ca) := fun o => (cell_alloc hlb2).trans hcw))
            all_goals
              go_wp2
            all_goals
              have U : Upd (h.del b) h3 w w3 := (Upd.eat ((u2.before (by repeat (first | exact Below.refl _ _ | apply Below.drew | refine Below.alloc ?_ (by simp) _))).after (by repeat (first | exact Below.refl _ _ | apply Below.drew | refine Below.alloc ?_ (by simp) _))) hu3).before hbr
              obtain ⟨UF, hn3⟩ := Upd.field (v := .slice C' (js.length + 1) cap') 0 hb hs (Hp.le_refl _) U
              clear hu3 u2
              go_ret2
              exact ⟨_, by unfold postSeq; rw [HE]; rfl, ⟨_, Hp.put_self, C', cap', by unfold post; rw [HE, if_pos rfl, List.length_append]; rfl, by rw [Hp.put_del hn3]; unfold post; rw [HE, if_pos rfl]; exact ho3⟩, UF⟩
      · go_enter Try.func39, Try.ntmps39
        go_wp2_with (go_at_call 63; refine (PC _).mono ?_; rintro e w' ⟨rfl, rfl⟩)
        refine (LC _ (Below.refl _ _)).mono ?_
        rintro e w1 ⟨rfl, b1⟩
        have hc1 := (b1.cell (p := ⟨b, 0, none⟩) (World.block_lt_of_cell? w _ hc)).trans hc
        go_wp2
        go_loopw [59] (fun i wr => ∃ (j : Nat), j ≤ xs.length ∧ i = .int .i64 j ∧ Hid (∀ y ∈ xs.take j, overX js ent y = false) ∧ Below w.heap.size w wr) (fun i _ => xs.length - (intOf i).toNat)
        case atStart => exact ⟨0, by omega, rfl, hov, b1⟩
        case round =>
          obtain ⟨j, hj, rfl, hn, hbr⟩ := hrel
          have hc2 := (hbr.cell (p := ⟨b, 0, none⟩) (World.block_lt_of_cell? w _ hc)).trans hc
          have hzr := hbr.size
          by_cases hlt : j < xs.length
          · obtain ⟨x, hx⟩ := some_of_lt hlt
            obtain ⟨b2, o2, rfl, c1, c2⟩ := sy.item (ks.of_below hbr) hx
            have i1 : (0 : Int) ≤ (j : Int) := by omega
            have i2 : (j : Int) < (xs.length : Int) := by omega
            have hX := hamt.out x (List.mem_of_getElem? hx.out)
            have hB := hbx x.kind
            obtain ⟨q1, q2⟩ : -4000000000000000 ≤ balance js ent x.kind 399 ∧ balance js ent x.kind 399 ≤ 4000000000000000 := by omega
            clear hB
            have HO : Hid (overX js ent x = !money (balance js ent x.kind 399 + x.amt)) := rfl
            have BCx := BCr x.kind
            generalize balance js ent x.kind 399 = v at *
            have hwp : IntKind.i64.wrap (v + x.amt) = v + x.amt := by rw [IntKind.wrap_i64]; omega
            cases hm : money (v + x.amt) with
            | true =>
              have HN : Hid (∀ y ∈ xs.take (j + 1), overX js ent y = false) := by
                intro y hy
                rw [take_next hx] at hy
                rcases List.mem_append.1 hy with hy | hy
                · exact hn.out y hy
                · simp at hy; subst hy; rw [HO.out, hm]; rfl
              clear HP2
              go_wp2
              go_region_held3 (fun w' => w'.cell? ⟨wr.heap.size, 0, none⟩ = some (.int .i64 x.kind) ∧ w'.cell? ⟨wr.heap.size, 1, none⟩ = some (.int .i64 x.amt))
                (first | go_keep | (go_split_ands; exact ⟨(b3.cell (by simp)).trans (by simp), (b3.cell (by simp)).trans (by simp)⟩))
                (first
                  | (go_at_call 42; refine (BCx _ (by repeat (first | exact hbr | apply Below.drew | refine Below.alloc ?_ (by first | (simp; done) | (simp; omega) | omega) _))).mono ?_; rintro e w3 ⟨rfl, b3⟩)
                  | (go_at_call 65; refine (money_calls _ _).mono ?_; rintro e w' ⟨rfl, rfl⟩))
              clear hwp
              go_wp2
              go_roundw
              case rel => exact ⟨j + 1, by omega, by go_num, HN, (by repeat (first | exact hbr | apply Below.drew | refine Below.alloc ?_ (by first | (simp; done) | (simp; omega) | omega) _ | refine Below.trans ?_ (b3.mono (by first | (simp; done) | (simp; omega) | omega))))⟩
              case measure => simp [intOf]; omega
            | false =>
              have HE : Hid (postE js ent per 2 of xs = 6) := by
                unfold Hid
                rw [HP2.out, if_neg h2, if_pos]
                exact List.any_eq_true.2 ⟨x, List.mem_of_getElem? hx.out, by rw [HO.out, hm]; rfl⟩
              clear HP2
              go_wp2
              go_region_held3 (fun w' => w'.cell? ⟨wr.heap.size, 0, none⟩ = some (.int .i64 x.kind) ∧ w'.cell? ⟨wr.heap.size, 1, none⟩ = some (.int .i64 x.amt))
                (first | go_keep | (go_split_ands; exact ⟨(b3.cell (by simp)).trans (by simp), (b3.cell (by simp)).trans (by simp)⟩))
                (first
                  | (go_at_call 42; refine (BCx _ (by repeat (first | exact hbr | apply Below.drew | refine Below.alloc ?_ (by first | (simp; done) | (simp; omega) | omega) _))).mono ?_; rintro e w3 ⟨rfl, b3⟩)
                  | (go_at_call 65; refine (money_calls _ _).mono ?_; rintro e w' ⟨rfl, rfl⟩))
              clear hwp
              go_wp2
              go_ret2
              exact .no HE.out (by decide) hp hs (by repeat (first | exact hbr | apply Below.drew | refine Below.alloc ?_ (by first | (simp; done) | (simp; omega) | omega) _ | refine Below.trans ?_ (b3.mono (by first | (simp; done) | (simp; omega) | omega))))
          · have hany : xs.any (overX js ent) = false := by
              rw [List.any_eq_false]
              intro y hy
              rw [hn.out y (by rw [List.take_of_length_le (by omega)]; exact hy)]; decide
            have HE := Lib.hid (HP2.out.trans (by rw [if_neg h2, hany, if_neg (by decide)]))
            have OC := fun W (hW : Below w.heap.size w W) => own_calls ⟨js.length + 1, ent, per, 2, of, xs⟩ D cd k W (ks.of_below hW) sy (show xs.length ≤ 1000000 by omega)
            clear HP2 hany
            have j1 : (0 : Int) ≤ (js.length : Int) := by omega
            have j2 : (js.length : Int) < 200 := by omega
            have hf2 : wr.frozen? ⟨b, 0, none⟩ = false := (hbr.frozen (p := ⟨b, 0, none⟩) (World.block_lt_of_cell? w _ hc)).trans (frozen_of_row w b 0 _ _ hbw)
            have hlb := Nat.lt_of_lt_of_le (World.block_lt_of_cell? w _ hc) hzr
            simp only at hlb
            go_wp2
            go_region_law (first
              | (refine step_app1 (hx := h2) (h := h.del b) (xs := js) (A := A) (cap := ca) (y := ⟨js.length + 1, ent, per, 2, of, xs⟩) Try.underlying64 info_jou (by rfl) (by rfl) rfl js.length 1 (by rfl) (by rfl) rfl ow (hd.of_below (by repeat (first | exact hbr | apply Below.drew | refine Below.alloc ?_ (by first | (simp; done) | (simp; omega) | omega) _ | refine Below.trans ?_ (u2.below.mono (by first | (simp; done) | (simp; omega) | omega))))) (heap_new_at (by simp)) ⟨C2, cap2, rfl, o2⟩ (u2.sub.of_below (by repeat (first | exact Below.refl _ _ | apply Below.drew | refine Below.alloc ?_ (by simp) _))) (u2.apart (fun _ e => absurd rfl e) (hd.of_below (by repeat (first | exact hbr | apply Below.drew | refine Below.alloc ?_ (by first | (simp; done) | (simp; omega) | omega) _)))).symm (by omega) (by omega) ?_; intro C' cap' w3 h3 ho3 hu3; have hcv : w3.cell? ⟨b, 0, none⟩ = _ := hu3.cell ((cell_alloc (by omega)).trans hcw) (by simp [Hp.or, Hp.del_self, h2n.out]); have hfv : w3.frozen? ⟨b, 0, none⟩ = _ := (hu3.frozen (p := ⟨b, 0, none⟩) (by first | (simp; done) | (simp; omega) | omega) (by simp [Hp.or, Hp.del_self, h2n.out])).trans ((frozen_alloc (by omega)).trans hfw))
              | (rw [if_pos (by rfl)]; go_simp; refine (OC _ (by repeat (first | exact hbr | apply Below.drew | refine Below.alloc ?_ (by first | (simp; done) | (simp; omega) | omega) _))).mono ?_; rintro e w2 ⟨C2, cap2, h2, rfl, o2, u2⟩; dsimp only; have hz2 := u2.size; simp at hz2; have hcw : w2.cell? ⟨b, 0, none⟩ = _ := (u2.below.cell (p := ⟨b, 0, none⟩) (by simp; omega)).trans (by simpa using hc2); have hfw : w2.frozen? ⟨b, 0, none⟩ = _ := (u2.below.frozen (p := ⟨b, 0, none⟩) (by simp; omega)).trans (by simpa using hf2); have h2n : Hid (h2 b = none) := u2.new_none (by first | (simp; done) | (simp; omega) | omega); have hlb2 : b < w2.heap.size := Nat.lt_of_lt_of_le hlb hz2; have hca : ∀ o, (w2.alloc o).cell? ⟨b, 0, none⟩ = some (.slice A js.length ca) := fun o => (cell_alloc hlb2).trans hcw))
            all_goals
              go_wp2
            all_goals
              have U : Upd (h.del b) h3 w w3 := (Upd.eat ((u2.before (by repeat (first | exact Below.refl _ _ | apply Below.drew | refine Below.alloc ?_ (by simp) _))).after (by repeat (first | exact Below.refl _ _ | apply Below.drew | refine Below.alloc ?_ (by simp) _))) hu3).before hbr
              obtain ⟨UF, hn3⟩ := Upd.field (v := .slice C' (js.length + 1) cap') 0 hb hs (Hp.le_refl _) U
              clear hu3 u2
              go_ret2
              exact ⟨_, by unfold postSeq; rw [HE]; rfl, ⟨_, Hp.put_self, C', cap', by unfold post; rw [HE, if_pos rfl, List.length_append]; rfl, by rw [Hp.put_del hn3]; unfold post; rw [HE, if_pos rfl]; exact ho3⟩, UF⟩
  · have hb0 : (linesE js ent per kind of xs != 0) = true := by simpa using hL
    have HE : Hid (postE js ent per kind of xs = linesE js ent per kind of xs) := by unfold Hid; rw [HP.out, if_pos hL]
    have HL : Hid (linesE js ent per kind of xs ≠ 0) := hL
    clear HP hL
    rcases hk with ⟨rfl, rfl⟩ | rfl
    all_goals
      go_enter Try.func39, Try.ntmps39
      go_wp2_with (go_at_call 63; refine (PC _).mono ?_; rintro e w' ⟨rfl, rfl⟩)
      refine (LC _ (Below.refl _ _)).mono ?_
      rintro e w1 ⟨rfl, b1⟩
      go_wp2
      go_ret2
      exact .no HE.out HL.out hp hs b1
end Go.Proofs.Ytnpnndifhlihhaa
