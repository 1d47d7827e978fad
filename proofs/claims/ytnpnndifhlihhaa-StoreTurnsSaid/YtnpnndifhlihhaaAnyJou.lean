/- slices.ContainsFunc over api.Journal, whatever the predicate. -/
import Derived.Test.YtnpnndifhlihhaaIdxJou
import Derived.Test.YtnpnndifhlihhaaIdx
import Derived.Shelf.Abstract
namespace Go.Proofs.Ytnpnndifhlihhaa
open Go.RowKit Go.Sl
set_option maxHeartbeats 1000000
set_option maxRecDepth 100000
theorem containsFunc_jou (g : FuncId) (lb : Array Value) (eg : Enters Try.prog g) (p : SJ → Bool) (A : Option Addr) (ca : Nat) (xs : List SJ) (h : Hp) (w : World) (hs : h.sub w) (sx : Sl kJ h A ca xs)
    (hp : ∀ (x : SJ) (B : Option Addr) (cb : Nat) (W : World), Below w.heap.size w W → Sl kItem h B cb x.lines → Calls Try.prog g (#[.agg #[.int .i64 x.seq, .string x.ent, .int .i64 x.period, .int .i64 x.kind, .int .i64 x.of, .slice B x.lines.length cb]] ++ lb) W fun e W' => e = .returned (.bool (p x)) ∧ Below W.heap.size W W') :
    Calls Try.prog 93 #[.slice A xs.length ca, .func (.func g) #[] lb] w fun e w' => e = .returned (.bool (xs.any p)) ∧ Below w.heap.size w w' := by
  have C := indexFunc_jou g lb eg p A ca xs h w hs sx hp
  have HI := Lib.hid (idx_any p xs)
  go_enter Try.func93, Try.ntmps93
  go_wp2_with fail
  refine C.mono ?_
  rintro e w1 ⟨rfl, b1⟩
  go_wp2
  go_ret
  exact ⟨by rw [← HI.out]; rfl, b1⟩
end Go.Proofs.Ytnpnndifhlihhaa
