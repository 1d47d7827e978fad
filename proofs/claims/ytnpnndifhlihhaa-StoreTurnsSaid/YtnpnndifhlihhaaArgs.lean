/- What an argument's reading as data gives a walk: slices of whole numbers. No program is named here. -/
import Derived.Test.YtnpnndifhlihhaaKinds
namespace Go.Sl
open Go Go.RowKit

def I64 (n : Int) : Prop := -9223372036854775808 ≤ n ∧ n ≤ 9223372036854775807
theorem I64.of_wf {n : Int} (h : (Lit.int .i64 n).wf = true) : I64 n := by
  simp [Lit.wf, IntKind.min, IntKind.max, IntKind.signed, IntKind.bits] at h
  unfold I64
  omega

/-- Cells that read as whole numbers, as a slice. -/
theorem Sl.of_ints {w : World} {x : Addr} {n cap : Nat} {zs : List Int} (hn : n ≤ cap) (hm : cap ≤ maxLen) (hz : zs.length = cap)
    (hc : ∀ i, i < zs.length → w.cell? (x.add i) = some (.int .i64 (zs.getD i 0))) : Sl kInt (Hp.all w) (some x) cap (zs.take n) :=
  ⟨by rw [List.length_take]; omega, hm, (fun e => (nomatch e)), fun i y hy => by
    have hi : i < n ∧ i < zs.length := by
      rw [List.getElem?_take] at hy
      split at hy
      · exact ⟨by assumption, (List.getElem?_eq_some_iff.1 hy).1⟩
      · cases hy
    have hyi : zs[i]? = some y := by rw [List.getElem?_take, if_pos hi.1] at hy; exact hy
    have h0 := hc 0 (by omega)
    have hx0 : x.add 0 = x := by simp [Addr.add]
    rw [hx0] at h0
    obtain ⟨b, off, sp⟩ := x
    have hsp : sp = .none := by
      unfold World.cell? at h0
      split at h0
      · cases sp with
        | none => rfl
        | some s => simp at h0
      · cases h0
    subst hsp
    have hci := hc i hi.2
    rw [add_mk] at hci
    unfold World.cell? at hci
    split at hci
    · rename_i cur E fr hb
      refine ⟨b, off, cur, E, fr, [.int .i64 y], rfl, hb, rfl, fun j u hu => ?_⟩
      cases j with
      | zero =>
        simp at hu; subst hu
        have hg : zs.getD i 0 = y := by simp [List.getD, hyi]
        rw [hg] at hci
        simpa [kInt, Kd.flat] using hci
      | succ j => simp at hu
    · cases hci⟩
theorem I64.of_take {zs : List Int} {n : Nat} (h : ∀ z ∈ zs, (Lit.int .i64 z).wf = true) : ∀ z ∈ zs.take n, I64 z := fun z hz => I64.of_wf (h z (List.mem_of_mem_take hz))
end Go.Sl
