/- The walk of store.lines. -/
import Derived.Test.YtnpnndifhlihhaaStoreRev
namespace Go.Sl
def linesE (js : List SJ) (ent : ByteArray) (p kind of : Int) (xs : List SItem) : Int :=
  if kind = 2 then
    if revE js ent p of ≠ 0 then revE js ent p of
    else if checkE xs ≠ 0 then checkE xs
    else match revX js of with
      | some x => if eqB xs (reverseL x.lines) = true then 0 else 2
      | none => 2
  else checkE xs
end Go.Sl
namespace Go.Proofs.Ytnpnndifhlihhaa
open Go.RowKit Go.Sl
set_option maxHeartbeats 1000000
set_option maxRecDepth 100000
theorem lines_calls (p : Nat) (A : Option Addr) (ca : Nat) (js : List SJ) (ent : ByteArray) (per kind of : Int) (h : Hp) (w : World) (hs : h.sub w) (hc : w.cell? ⟨p, 0, none⟩ = some (.slice A js.length ca)) (sx : Sl kJ h A ca js) (hl : js.length ≤ 1000000) (hll : ∀ x ∈ js, x.lines.length ≤ 1000000)
    (D : Option Addr) (cd : Nat) (xs : List SItem) (k : Hp) (ks : k.sub w) (sy : Sl kItem k D cd xs) :
    Calls Try.prog 64 #[.pointer (some ⟨p, 0, none⟩), .string ent, .int .i64 per, .int .i64 kind, .int .i64 of, .slice D xs.length cd] w fun e w' => e = .returned (.int .i64 (linesE js ent per kind of xs)) ∧ Below w.heap.size w w' := by
  have CC := fun (W : World) (hW : Below w.heap.size w W) => check_calls D cd xs k W (ks.of_below hW) sy
  by_cases hk : kind = 2
  · subst hk
    have HL : Hid (linesE js ent per 2 of xs = if revE js ent per of ≠ 0 then revE js ent per of else if checkE xs ≠ 0 then checkE xs else match revX js of with | some x => if eqB xs (reverseL x.lines) = true then 0 else 2 | none => 2) := by unfold Hid linesE; rw [if_pos rfl]
    go_enter Try.func64, Try.ntmps64
    go_wp2_with fail
    refine (reversed_calls p A ca js ent per of h w hs hc sx hl).mono ?_
    rintro e w1 (⟨hE, rfl, b1⟩ | ⟨x, B, cb, hE, hX, hxm, sl, rfl, b1⟩)
    · have hEb : (revE js ent per of != 0) = true := by simpa using hE
      have HE : Hid (linesE js ent per 2 of xs = revE js ent per of) := by unfold Hid; rw [HL.out, if_pos hE]
      clear hE HL
      go_wp2
      go_ret
      exact ⟨by rw [HE.out]; rfl, b1.alloc b1.size _⟩
    · have hxl := hll x hxm
      have HL2 : Hid (linesE js ent per 2 of xs = if checkE xs ≠ 0 then checkE xs else if eqB xs (reverseL x.lines) = true then 0 else 2) := by unfold Hid; rw [HL.out, hE, hX]; rfl
      clear hE hX HL
      go_wp2_with fail
      have b1a : Below w.heap.size w (w1.alloc (.cells #[.int .i64 x.seq, .string x.ent, .int .i64 x.period, .int .i64 x.kind, .int .i64 x.of, .slice B x.lines.length cb] 70)) := b1.alloc b1.size _
      refine (reverse_calls B cb x.lines h _ (hs.of_below b1a) sl hxl).mono ?_
      rintro e w2 ⟨C, c2, h2, rfl, o2, u2⟩
      have b2 := b1a.trans (u2.below.mono b1a.size)
      have CC2 := CC w2 b2
      have HRL : Hid ((reverseL x.lines).length = x.lines.length) := by unfold Hid reverseL; simp
      have s2 := u2.sub
      have o2l := o2.sl
      clear o2 u2 CC
      by_cases h0 : checkE xs = 0
      · rw [h0] at CC2
        have EC := fun (W : World) (hW : Below w2.heap.size w2 W) => equal_line D C cd c2 xs (reverseL x.lines) k h2 W (ks.of_below (b2.trans (hW.mono b2.size))) (s2.of_below hW) sy o2l
        rw [HRL.out] at EC
        cases hq : eqB xs (reverseL x.lines) with
        | true =>
          have HE : Hid (linesE js ent per 2 of xs = 0) := by unfold Hid; rw [HL2.out, h0, hq]; rfl
          rw [hq] at EC
          clear h0 hq HL2
          go_wp2_with fail
          refine CC2.mono ?_
          rintro e w3 ⟨rfl, b3⟩
          have b4 := b2.trans (b3.mono b2.size)
          go_wp2_with (go_at_call 84; refine (EC _ b3).mono ?_; rintro e w4 ⟨rfl, b5⟩)
          go_ret
          exact ⟨by rw [HE.out]; rfl, b4.trans (b5.mono b4.size)⟩
        | false =>
          have HE : Hid (linesE js ent per 2 of xs = 2) := by unfold Hid; rw [HL2.out, h0, hq]; rfl
          rw [hq] at EC
          clear h0 hq HL2
          go_wp2_with fail
          refine CC2.mono ?_
          rintro e w3 ⟨rfl, b3⟩
          have b4 := b2.trans (b3.mono b2.size)
          go_wp2_with (go_at_call 84; refine (EC _ b3).mono ?_; rintro e w4 ⟨rfl, b5⟩)
          go_ret
          exact ⟨by rw [HE.out]; rfl, b4.trans (b5.mono b4.size)⟩
      · have hb : (checkE xs != 0) = true := by simpa using h0
        have HE : Hid (linesE js ent per 2 of xs = checkE xs) := by unfold Hid; rw [HL2.out, if_pos h0]
        clear h0 HL2
        go_wp2_with fail
        refine CC2.mono ?_
        rintro e w3 ⟨rfl, b3⟩
        go_wp2
        go_ret
        exact ⟨by rw [HE.out]; rfl, b2.trans (b3.mono b2.size)⟩
  · have HL : Hid (linesE js ent per kind of xs = checkE xs) := by unfold Hid linesE; rw [if_neg hk]
    have hkb : (kind == 2) = false := by simpa using hk
    clear hk
    by_cases h0 : checkE xs = 0
    · rw [h0] at CC
      have HE : Hid (linesE js ent per kind of xs = 0) := by unfold Hid; rw [HL.out, h0]
      clear h0 HL
      go_enter Try.func64, Try.ntmps64
      go_wp2_with fail
      refine (CC _ (by repeat (first | exact Below.refl _ _ | apply Below.drew | refine Below.alloc ?_ (by simp) _))).mono ?_
      rintro e w1 ⟨rfl, b1⟩
      go_wp2
      go_ret
      exact ⟨by rw [HE.out]; rfl, (show Below w.heap.size w _ from (by repeat (first | exact Below.refl _ _ | apply Below.drew | refine Below.alloc ?_ (by simp) _))).trans (b1.mono (by simp))⟩
    · have hb : (checkE xs != 0) = true := by simpa using h0
      clear h0
      go_enter Try.func64, Try.ntmps64
      go_wp2_with fail
      refine (CC _ (by repeat (first | exact Below.refl _ _ | apply Below.drew | refine Below.alloc ?_ (by simp) _))).mono ?_
      rintro e w1 ⟨rfl, b1⟩
      go_wp2
      go_ret
      exact ⟨by rw [HL.out]; rfl, (show Below w.heap.size w _ from (by repeat (first | exact Below.refl _ _ | apply Below.drew | refine Below.alloc ?_ (by simp) _))).trans (b1.mono (by simp))⟩
end Go.Proofs.Ytnpnndifhlihhaa
