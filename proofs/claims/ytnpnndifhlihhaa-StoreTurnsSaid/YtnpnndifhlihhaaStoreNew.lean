/- The walks of store.New and store.Clone. -/
import Derived.Test.YtnpnndifhlihhaaStorePost
import Derived.Test.YtnpnndifhlihhaaEnv
namespace Go.Proofs.Ytnpnndifhlihhaa
open Go.RowKit Go.Sl
set_option maxHeartbeats 1000000
set_option maxRecDepth 100000
theorem storeNew_calls (w : World) : Calls Try.prog 38 #[] w fun e w' => ∃ h b, e = .returned (.pointer (some ⟨b, 0, none⟩)) ∧ Pt kSt 93 h b [] ∧ Upd Hp.none h w w' := by
  go_enter Try.func38, Try.ntmps38
  go_wp2
  go_ret
  exact ⟨_, _, rfl, ⟨_, Hp.one_self _ _, none, 0, rfl, Ow.none _ _⟩, Upd.newBlock w _⟩
theorem storeClone_calls (p : Nat) (A : Option Addr) (ca : Nat) (js : List SJ) (h : Hp) (w : World) (hs : h.sub w) (hc : w.cell? ⟨p, 0, none⟩ = some (.slice A js.length ca)) (sx : Sl kJ h A ca js) (hl : js.length ≤ 1000000) (hll : ∀ x ∈ js, x.lines.length ≤ 1000000) :
    Calls Try.prog 44 #[.pointer (some ⟨p, 0, none⟩)] w fun e w' => ∃ h b, e = .returned (.pointer (some ⟨b, 0, none⟩)) ∧ Pt kSt 93 h b js ∧ Upd Hp.none h w w' := by
  go_enter Try.func44, Try.ntmps44
  go_wp2_with fail
  refine (journals_calls p A ca js h w hs hc sx hl hll).mono ?_
  rintro e w1 ⟨C, cap, h1, rfl, o1, u1⟩
  go_wp2
  go_ret
  exact ⟨_, _, rfl, ⟨_, Hp.put_self, C, cap, rfl, by rw [Hp.put_del (u1.sub.free (Nat.le_refl _))]; exact o1⟩, u1.put⟩
/-- What the store's pointer gives to readers. -/
theorem _root_.Go.Sl.Pt.store {T : TypeId} {h : Hp} {b : Nat} {js : List SJ} {w : World} (p : Pt kSt T h b js) (s : h.sub w) : ∃ A ca, w.cell? ⟨b, 0, none⟩ = some (.slice A js.length ca) ∧ Sl kJ h A ca js := by
  obtain ⟨cs, hb, A, ca, rfl, ow⟩ := p
  exact ⟨A, ca, by rw [cell_of_row w b 0 _ _ _ (s b _ hb)]; rfl, ow.sl.mono (Hp.del_le _ _)⟩
/-- The readers, at a pointer. -/
theorem balance_at {b : Nat} {js : List SJ} {h : Hp} {w : World} (hp : Pt kSt 93 h b js) (hs : h.sub w) (hl : js.length ≤ 1000) (ent : ByteArray) (a upto : Int) :
    Calls Try.prog 42 #[.pointer (some ⟨b, 0, none⟩), .string ent, .int .i64 a, .int .i64 upto] w fun e w' => e = .returned (.int .i64 (balance js ent a upto)) ∧ Below w.heap.size w w' := by
  obtain ⟨A, ca, hc, sx⟩ := hp.store hs
  exact balance_calls b A ca js ent a upto h w hs hc sx hl
theorem journals_at {b : Nat} {js : List SJ} {h : Hp} {w : World} (hp : Pt kSt 93 h b js) (hs : h.sub w) (hl : js.length ≤ 1000) (hll : ∀ x ∈ js, x.lines.length ≤ 1000000) :
    Calls Try.prog 40 #[.pointer (some ⟨b, 0, none⟩)] w fun e w' => ∃ C cap h', e = .returned (.slice C js.length cap) ∧ Ow kJ h' C cap js ∧ Upd Hp.none h' w w' := by
  obtain ⟨A, ca, hc, sx⟩ := hp.store hs
  exact journals_calls b A ca js h w hs hc sx (by omega) hll
theorem clone_at {b : Nat} {js : List SJ} {h : Hp} {w : World} (hp : Pt kSt 93 h b js) (hs : h.sub w) (hl : js.length ≤ 1000) (hll : ∀ x ∈ js, x.lines.length ≤ 1000000) :
    Calls Try.prog 44 #[.pointer (some ⟨b, 0, none⟩)] w fun e w' => ∃ h b, e = .returned (.pointer (some ⟨b, 0, none⟩)) ∧ Pt kSt 93 h b js ∧ Upd Hp.none h w w' := by
  obtain ⟨A, ca, hc, sx⟩ := hp.store hs
  exact storeClone_calls b A ca js h w hs hc sx (by omega) hll
end Go.Proofs.Ytnpnndifhlihhaa
