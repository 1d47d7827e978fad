/-
  No cell of these rows narrows 'for every input' (looked for: loops, veiled, ifaces, maps, wideKeys, modest, calm, conditions, laid).
  DERIVED. THE GIVEN ROWS OF THIS SEAT. 11 by the template 'for every input the law returns true; each argument reads behind the call as it read before'; 0 by the template 'total and deterministic' (their statements: YtnfedcaehkcffaaGreatTotals.lean).
  GIVEN WITH THE SEED: the statements are not yours to turn. If you find one false, say at which input.
  Laid BY PROGRAM, IN A SANDBOX (cutbox-rows.mjs): the forced cells as the released guide's own fill.sh prints them over the translation 66ee9350d6749fa8… (all of the seat's roots in one cut). By AI agents, Wed Nov 11 2026. No macro, syntax, notation, axiom, sorry.
-/
import Derived.Test.YtnfedcaehkcffaaGreatChecked
import GoSem.Claim
import GoSem.ClaimJoined
import GoSem.ClaimMapViews
import Derived.JoinedTies
import Derived.KernelRfl
namespace Go.Proofs.YtnfedcaehkcffaaGreat
/- THE CELL 'sum', in the pinned program and in every row, IS THE sha256 OF THE DUMP (.gsa) THAT YtnfedcaehkcffaaGreatProg.lean LOADS. Nothing in Lean hashes anything: it is a label: what it is worth is what the hold of that sum in a sandbox is worth. -/
noncomputable def Tryz.pinned : Pinned := { name := "ytnfedcaehkcffaagreat", sum := "66ee9350d6749fa85a60d3e1e2a44dfe53d5b668ffb96b4c075098c16579976f", checked := Tryz.checked }
namespace Rows
def none {H : Type} : Left H := { results := [], args := [] }

/-- 'scutagelaw19.ClosingErrors': WHATEVER THE INPUT: true; the input reads as it did. -/
def closingErrorsSpec : ChangeSpec := { name := "closingErrors", fn := fun _ => fun
  | [d] => { results := [.lit (.bool true)], args := [d] }
  | _ => none }
def closingErrorsRow : OpenClaim := { program := "ytnfedcaehkcffaagreat", sum := "66ee9350d6749fa85a60d3e1e2a44dfe53d5b668ffb96b4c075098c16579976f", func := "scutage/scutagelaw19.ClosingErrors", spec := "closingErrors", unfollowed := true, recurses := true, apart := false }
def ClosingErrorsSaid : Prop := closingErrorsRow.holds Tryz.pinned (OpenSpec.ofChange closingErrorsSpec)

/-- ITS FALSE NEIGHBOUR: 'it returns false'. Refute it at one input. -/
def closingErrorsWrong : ChangeSpec := { name := "closingErrors", fn := fun _ => fun
  | [d] => { results := [.lit (.bool false)], args := [d] }
  | _ => none }
def ClosingErrorsWrongFalsely : Prop := closingErrorsRow.holds Tryz.pinned (OpenSpec.ofChange closingErrorsWrong)

/-- 'scutagelaw19.ClosingLosses': WHATEVER THE INPUT: true; the input reads as it did. -/
def closingLossesSpec : ChangeSpec := { name := "closingLosses", fn := fun _ => fun
  | [d1, d2, d3] => { results := [.lit (.bool true)], args := [d1, d2, d3] }
  | _ => none }
def closingLossesRow : OpenClaim := { program := "ytnfedcaehkcffaagreat", sum := "66ee9350d6749fa85a60d3e1e2a44dfe53d5b668ffb96b4c075098c16579976f", func := "scutage/scutagelaw19.ClosingLosses", spec := "closingLosses", unfollowed := true, recurses := true, apart := false }
def ClosingLossesSaid : Prop := closingLossesRow.holds Tryz.pinned (OpenSpec.ofChange closingLossesSpec)

/-- ITS FALSE NEIGHBOUR: 'it returns false'. Refute it at one input. -/
def closingLossesWrong : ChangeSpec := { name := "closingLosses", fn := fun _ => fun
  | [d1, d2, d3] => { results := [.lit (.bool false)], args := [d1, d2, d3] }
  | _ => none }
def ClosingLossesWrongFalsely : Prop := closingLossesRow.holds Tryz.pinned (OpenSpec.ofChange closingLossesWrong)

/-- 'scutagelaw21.ReconExpired': WHATEVER THE INPUT: true; the input reads as it did. -/
def reconExpiredSpec : ChangeSpec := { name := "reconExpired", fn := fun _ => fun
  | [d1, d2, d3, d4] => { results := [.lit (.bool true)], args := [d1, d2, d3, d4] }
  | _ => none }
def reconExpiredRow : OpenClaim := { program := "ytnfedcaehkcffaagreat", sum := "66ee9350d6749fa85a60d3e1e2a44dfe53d5b668ffb96b4c075098c16579976f", func := "scutage/scutagelaw21.ReconExpired", spec := "reconExpired", unfollowed := true, recurses := true, apart := false }
def ReconExpiredSaid : Prop := reconExpiredRow.holds Tryz.pinned (OpenSpec.ofChange reconExpiredSpec)

/-- ITS FALSE NEIGHBOUR: 'it returns false'. Refute it at one input. -/
def reconExpiredWrong : ChangeSpec := { name := "reconExpired", fn := fun _ => fun
  | [d1, d2, d3, d4] => { results := [.lit (.bool false)], args := [d1, d2, d3, d4] }
  | _ => none }
def ReconExpiredWrongFalsely : Prop := reconExpiredRow.holds Tryz.pinned (OpenSpec.ofChange reconExpiredWrong)

/-- 'scutagelaw19.ClosingTurns': WHATEVER THE INPUT: true; the input reads as it did. -/
def closingTurnsSpec : ChangeSpec := { name := "closingTurns", fn := fun _ => fun
  | [d1, d2, d3] => { results := [.lit (.bool true)], args := [d1, d2, d3] }
  | _ => none }
def closingTurnsRow : OpenClaim := { program := "ytnfedcaehkcffaagreat", sum := "66ee9350d6749fa85a60d3e1e2a44dfe53d5b668ffb96b4c075098c16579976f", func := "scutage/scutagelaw19.ClosingTurns", spec := "closingTurns", unfollowed := true, recurses := true, apart := false }
def ClosingTurnsSaid : Prop := closingTurnsRow.holds Tryz.pinned (OpenSpec.ofChange closingTurnsSpec)

/-- ITS FALSE NEIGHBOUR: 'it returns false'. Refute it at one input. -/
def closingTurnsWrong : ChangeSpec := { name := "closingTurns", fn := fun _ => fun
  | [d1, d2, d3] => { results := [.lit (.bool false)], args := [d1, d2, d3] }
  | _ => none }
def ClosingTurnsWrongFalsely : Prop := closingTurnsRow.holds Tryz.pinned (OpenSpec.ofChange closingTurnsWrong)

/-- 'scutagelaw19.ClosingMakes': WHATEVER THE INPUT: true; the input reads as it did. -/
def closingMakesSpec : ChangeSpec := { name := "closingMakes", fn := fun _ => fun
  | [d1, d2] => { results := [.lit (.bool true)], args := [d1, d2] }
  | _ => none }
def closingMakesRow : OpenClaim := { program := "ytnfedcaehkcffaagreat", sum := "66ee9350d6749fa85a60d3e1e2a44dfe53d5b668ffb96b4c075098c16579976f", func := "scutage/scutagelaw19.ClosingMakes", spec := "closingMakes", unfollowed := true, recurses := true, apart := false }
def ClosingMakesSaid : Prop := closingMakesRow.holds Tryz.pinned (OpenSpec.ofChange closingMakesSpec)

/-- ITS FALSE NEIGHBOUR: 'it returns false'. Refute it at one input. -/
def closingMakesWrong : ChangeSpec := { name := "closingMakes", fn := fun _ => fun
  | [d1, d2] => { results := [.lit (.bool false)], args := [d1, d2] }
  | _ => none }
def ClosingMakesWrongFalsely : Prop := closingMakesRow.holds Tryz.pinned (OpenSpec.ofChange closingMakesWrong)

/-- 'scutagelaw19.ClosingTotals': WHATEVER THE INPUT: true; the input reads as it did. -/
def closingTotalsSpec : ChangeSpec := { name := "closingTotals", fn := fun _ => fun
  | [d] => { results := [.lit (.bool true)], args := [d] }
  | _ => none }
def closingTotalsRow : OpenClaim := { program := "ytnfedcaehkcffaagreat", sum := "66ee9350d6749fa85a60d3e1e2a44dfe53d5b668ffb96b4c075098c16579976f", func := "scutage/scutagelaw19.ClosingTotals", spec := "closingTotals", unfollowed := true, recurses := true, apart := false }
def ClosingTotalsSaid : Prop := closingTotalsRow.holds Tryz.pinned (OpenSpec.ofChange closingTotalsSpec)

/-- ITS FALSE NEIGHBOUR: 'it returns false'. Refute it at one input. -/
def closingTotalsWrong : ChangeSpec := { name := "closingTotals", fn := fun _ => fun
  | [d] => { results := [.lit (.bool false)], args := [d] }
  | _ => none }
def ClosingTotalsWrongFalsely : Prop := closingTotalsRow.holds Tryz.pinned (OpenSpec.ofChange closingTotalsWrong)

/-- 'scutagelaw19.ClosingStays': WHATEVER THE INPUT: true; the input reads as it did. -/
def closingStaysSpec : ChangeSpec := { name := "closingStays", fn := fun _ => fun
  | [d1, d2] => { results := [.lit (.bool true)], args := [d1, d2] }
  | _ => none }
def closingStaysRow : OpenClaim := { program := "ytnfedcaehkcffaagreat", sum := "66ee9350d6749fa85a60d3e1e2a44dfe53d5b668ffb96b4c075098c16579976f", func := "scutage/scutagelaw19.ClosingStays", spec := "closingStays", unfollowed := true, recurses := true, apart := false }
def ClosingStaysSaid : Prop := closingStaysRow.holds Tryz.pinned (OpenSpec.ofChange closingStaysSpec)

/-- ITS FALSE NEIGHBOUR: 'it returns false'. Refute it at one input. -/
def closingStaysWrong : ChangeSpec := { name := "closingStays", fn := fun _ => fun
  | [d1, d2] => { results := [.lit (.bool false)], args := [d1, d2] }
  | _ => none }
def ClosingStaysWrongFalsely : Prop := closingStaysRow.holds Tryz.pinned (OpenSpec.ofChange closingStaysWrong)

/-- 'scutagelaw21.ReconChange': WHATEVER THE INPUT: true; the input reads as it did. -/
def reconChangeSpec : ChangeSpec := { name := "reconChange", fn := fun _ => fun
  | [d1, d2, d3] => { results := [.lit (.bool true)], args := [d1, d2, d3] }
  | _ => none }
def reconChangeRow : OpenClaim := { program := "ytnfedcaehkcffaagreat", sum := "66ee9350d6749fa85a60d3e1e2a44dfe53d5b668ffb96b4c075098c16579976f", func := "scutage/scutagelaw21.ReconChange", spec := "reconChange", unfollowed := true, recurses := true, apart := false }
def ReconChangeSaid : Prop := reconChangeRow.holds Tryz.pinned (OpenSpec.ofChange reconChangeSpec)

/-- ITS FALSE NEIGHBOUR: 'it returns false'. Refute it at one input. -/
def reconChangeWrong : ChangeSpec := { name := "reconChange", fn := fun _ => fun
  | [d1, d2, d3] => { results := [.lit (.bool false)], args := [d1, d2, d3] }
  | _ => none }
def ReconChangeWrongFalsely : Prop := reconChangeRow.holds Tryz.pinned (OpenSpec.ofChange reconChangeWrong)

/-- 'scutagelaw21.ReconItems': WHATEVER THE INPUT: true; the input reads as it did. -/
def reconItemsSpec : ChangeSpec := { name := "reconItems", fn := fun _ => fun
  | [d] => { results := [.lit (.bool true)], args := [d] }
  | _ => none }
def reconItemsRow : OpenClaim := { program := "ytnfedcaehkcffaagreat", sum := "66ee9350d6749fa85a60d3e1e2a44dfe53d5b668ffb96b4c075098c16579976f", func := "scutage/scutagelaw21.ReconItems", spec := "reconItems", unfollowed := true, recurses := true, apart := false }
def ReconItemsSaid : Prop := reconItemsRow.holds Tryz.pinned (OpenSpec.ofChange reconItemsSpec)

/-- ITS FALSE NEIGHBOUR: 'it returns false'. Refute it at one input. -/
def reconItemsWrong : ChangeSpec := { name := "reconItems", fn := fun _ => fun
  | [d] => { results := [.lit (.bool false)], args := [d] }
  | _ => none }
def ReconItemsWrongFalsely : Prop := reconItemsRow.holds Tryz.pinned (OpenSpec.ofChange reconItemsWrong)

/-- 'scutagelaw21.ReconRounds': WHATEVER THE INPUT: true; the input reads as it did. -/
def reconRoundsSpec : ChangeSpec := { name := "reconRounds", fn := fun _ => fun
  | [d1, d2] => { results := [.lit (.bool true)], args := [d1, d2] }
  | _ => none }
def reconRoundsRow : OpenClaim := { program := "ytnfedcaehkcffaagreat", sum := "66ee9350d6749fa85a60d3e1e2a44dfe53d5b668ffb96b4c075098c16579976f", func := "scutage/scutagelaw21.ReconRounds", spec := "reconRounds", unfollowed := true, recurses := true, apart := false }
def ReconRoundsSaid : Prop := reconRoundsRow.holds Tryz.pinned (OpenSpec.ofChange reconRoundsSpec)

/-- ITS FALSE NEIGHBOUR: 'it returns false'. Refute it at one input. -/
def reconRoundsWrong : ChangeSpec := { name := "reconRounds", fn := fun _ => fun
  | [d1, d2] => { results := [.lit (.bool false)], args := [d1, d2] }
  | _ => none }
def ReconRoundsWrongFalsely : Prop := reconRoundsRow.holds Tryz.pinned (OpenSpec.ofChange reconRoundsWrong)

/-- 'scutagelaw21.ReconPlain': WHATEVER THE INPUT: true; the input reads as it did. -/
def reconPlainSpec : ChangeSpec := { name := "reconPlain", fn := fun _ => fun
  | [d1, d2] => { results := [.lit (.bool true)], args := [d1, d2] }
  | _ => none }
def reconPlainRow : OpenClaim := { program := "ytnfedcaehkcffaagreat", sum := "66ee9350d6749fa85a60d3e1e2a44dfe53d5b668ffb96b4c075098c16579976f", func := "scutage/scutagelaw21.ReconPlain", spec := "reconPlain", unfollowed := true, recurses := true, apart := false }
def ReconPlainSaid : Prop := reconPlainRow.holds Tryz.pinned (OpenSpec.ofChange reconPlainSpec)

/-- ITS FALSE NEIGHBOUR: 'it returns false'. Refute it at one input. -/
def reconPlainWrong : ChangeSpec := { name := "reconPlain", fn := fun _ => fun
  | [d1, d2] => { results := [.lit (.bool false)], args := [d1, d2] }
  | _ => none }
def ReconPlainWrongFalsely : Prop := reconPlainRow.holds Tryz.pinned (OpenSpec.ofChange reconPlainWrong)

/- THE SECOND FORM. 'bulk': how many values and letters a reading holds, each counted each time it is reached (what is shared counts as often as it is met; a slice's spare places count too). A statement '..UptoSaid' is the law's where the arguments, and the package variables that the reading takes, are together of bulk at most 1048576: NARROWER than '..Said'. Prove '..Said' where nothing that the law and all that it calls make is longer than what came in: it says more and counts as full. Else prove '..UptoSaid'. A law counts once. -/
mutual
def uptoBulk {H : Type} : DataW H → Nat
  | .lit (.string bytes) => bytes.length + 1
  | .lit _ => 1
  | .nil => 1
  | .ptr d => uptoBulk d + 1
  | .slice elems spare => uptoBulkAll elems + uptoBulkAll spare + 1
  | .agg parts => uptoBulkAll parts + 1
  | .iface _ d => uptoBulk d + 1
  | .map entries => uptoBulkEntries entries + 1
  | .held _ => 1
def uptoBulkAll {H : Type} : List (DataW H) → Nat
  | [] => 0
  | d :: r => uptoBulk d + uptoBulkAll r
def uptoBulkEntries {H : Type} : List (Lit × DataW H) → Nat
  | [] => 0
  | x :: r => uptoBulkEntry x + uptoBulkEntries r
def uptoBulkEntry {H : Type} : Lit × DataW H → Nat
  | (.string bytes, d) => bytes.length + uptoBulk d + 1
  | (_, d) => uptoBulk d + 1
 end
def uptoSmall : (H : Type) → List (DataW H) → Bool := fun _ ds => decide (uptoBulkAll ds ≤ 1048576)
def OpenSpec.upto (s : _root_.Go.ChangeSpec) : _root_.Go.OpenSpec := { _root_.Go.OpenSpec.ofChange s with cond := some uptoSmall }

/-- 'scutagelaw19.ClosingErrors', WHERE WHAT IT READS IS OF BULK AT MOST 1048576: true; the input reads as it did. -/
def closingErrorsUptoRow : OpenClaim := { program := "ytnfedcaehkcffaagreat", sum := "66ee9350d6749fa85a60d3e1e2a44dfe53d5b668ffb96b4c075098c16579976f", func := "scutage/scutagelaw19.ClosingErrors", spec := "closingErrors", unfollowed := true, recurses := true, apart := false, narrowed := true }
def ClosingErrorsUptoSaid : Prop := closingErrorsUptoRow.holds Tryz.pinned (OpenSpec.upto closingErrorsSpec)

/-- 'scutagelaw19.ClosingLosses', WHERE WHAT IT READS IS OF BULK AT MOST 1048576: true; the input reads as it did. -/
def closingLossesUptoRow : OpenClaim := { program := "ytnfedcaehkcffaagreat", sum := "66ee9350d6749fa85a60d3e1e2a44dfe53d5b668ffb96b4c075098c16579976f", func := "scutage/scutagelaw19.ClosingLosses", spec := "closingLosses", unfollowed := true, recurses := true, apart := false, narrowed := true }
def ClosingLossesUptoSaid : Prop := closingLossesUptoRow.holds Tryz.pinned (OpenSpec.upto closingLossesSpec)

/-- 'scutagelaw21.ReconExpired', WHERE WHAT IT READS IS OF BULK AT MOST 1048576: true; the input reads as it did. -/
def reconExpiredUptoRow : OpenClaim := { program := "ytnfedcaehkcffaagreat", sum := "66ee9350d6749fa85a60d3e1e2a44dfe53d5b668ffb96b4c075098c16579976f", func := "scutage/scutagelaw21.ReconExpired", spec := "reconExpired", unfollowed := true, recurses := true, apart := false, narrowed := true }
def ReconExpiredUptoSaid : Prop := reconExpiredUptoRow.holds Tryz.pinned (OpenSpec.upto reconExpiredSpec)

/-- 'scutagelaw19.ClosingTurns', WHERE WHAT IT READS IS OF BULK AT MOST 1048576: true; the input reads as it did. -/
def closingTurnsUptoRow : OpenClaim := { program := "ytnfedcaehkcffaagreat", sum := "66ee9350d6749fa85a60d3e1e2a44dfe53d5b668ffb96b4c075098c16579976f", func := "scutage/scutagelaw19.ClosingTurns", spec := "closingTurns", unfollowed := true, recurses := true, apart := false, narrowed := true }
def ClosingTurnsUptoSaid : Prop := closingTurnsUptoRow.holds Tryz.pinned (OpenSpec.upto closingTurnsSpec)

/-- 'scutagelaw19.ClosingMakes', WHERE WHAT IT READS IS OF BULK AT MOST 1048576: true; the input reads as it did. -/
def closingMakesUptoRow : OpenClaim := { program := "ytnfedcaehkcffaagreat", sum := "66ee9350d6749fa85a60d3e1e2a44dfe53d5b668ffb96b4c075098c16579976f", func := "scutage/scutagelaw19.ClosingMakes", spec := "closingMakes", unfollowed := true, recurses := true, apart := false, narrowed := true }
def ClosingMakesUptoSaid : Prop := closingMakesUptoRow.holds Tryz.pinned (OpenSpec.upto closingMakesSpec)

/-- 'scutagelaw19.ClosingTotals', WHERE WHAT IT READS IS OF BULK AT MOST 1048576: true; the input reads as it did. -/
def closingTotalsUptoRow : OpenClaim := { program := "ytnfedcaehkcffaagreat", sum := "66ee9350d6749fa85a60d3e1e2a44dfe53d5b668ffb96b4c075098c16579976f", func := "scutage/scutagelaw19.ClosingTotals", spec := "closingTotals", unfollowed := true, recurses := true, apart := false, narrowed := true }
def ClosingTotalsUptoSaid : Prop := closingTotalsUptoRow.holds Tryz.pinned (OpenSpec.upto closingTotalsSpec)

/-- 'scutagelaw19.ClosingStays', WHERE WHAT IT READS IS OF BULK AT MOST 1048576: true; the input reads as it did. -/
def closingStaysUptoRow : OpenClaim := { program := "ytnfedcaehkcffaagreat", sum := "66ee9350d6749fa85a60d3e1e2a44dfe53d5b668ffb96b4c075098c16579976f", func := "scutage/scutagelaw19.ClosingStays", spec := "closingStays", unfollowed := true, recurses := true, apart := false, narrowed := true }
def ClosingStaysUptoSaid : Prop := closingStaysUptoRow.holds Tryz.pinned (OpenSpec.upto closingStaysSpec)

/-- 'scutagelaw21.ReconChange', WHERE WHAT IT READS IS OF BULK AT MOST 1048576: true; the input reads as it did. -/
def reconChangeUptoRow : OpenClaim := { program := "ytnfedcaehkcffaagreat", sum := "66ee9350d6749fa85a60d3e1e2a44dfe53d5b668ffb96b4c075098c16579976f", func := "scutage/scutagelaw21.ReconChange", spec := "reconChange", unfollowed := true, recurses := true, apart := false, narrowed := true }
def ReconChangeUptoSaid : Prop := reconChangeUptoRow.holds Tryz.pinned (OpenSpec.upto reconChangeSpec)

/-- 'scutagelaw21.ReconItems', WHERE WHAT IT READS IS OF BULK AT MOST 1048576: true; the input reads as it did. -/
def reconItemsUptoRow : OpenClaim := { program := "ytnfedcaehkcffaagreat", sum := "66ee9350d6749fa85a60d3e1e2a44dfe53d5b668ffb96b4c075098c16579976f", func := "scutage/scutagelaw21.ReconItems", spec := "reconItems", unfollowed := true, recurses := true, apart := false, narrowed := true }
def ReconItemsUptoSaid : Prop := reconItemsUptoRow.holds Tryz.pinned (OpenSpec.upto reconItemsSpec)

/-- 'scutagelaw21.ReconRounds', WHERE WHAT IT READS IS OF BULK AT MOST 1048576: true; the input reads as it did. -/
def reconRoundsUptoRow : OpenClaim := { program := "ytnfedcaehkcffaagreat", sum := "66ee9350d6749fa85a60d3e1e2a44dfe53d5b668ffb96b4c075098c16579976f", func := "scutage/scutagelaw21.ReconRounds", spec := "reconRounds", unfollowed := true, recurses := true, apart := false, narrowed := true }
def ReconRoundsUptoSaid : Prop := reconRoundsUptoRow.holds Tryz.pinned (OpenSpec.upto reconRoundsSpec)

/-- 'scutagelaw21.ReconPlain', WHERE WHAT IT READS IS OF BULK AT MOST 1048576: true; the input reads as it did. -/
def reconPlainUptoRow : OpenClaim := { program := "ytnfedcaehkcffaagreat", sum := "66ee9350d6749fa85a60d3e1e2a44dfe53d5b668ffb96b4c075098c16579976f", func := "scutage/scutagelaw21.ReconPlain", spec := "reconPlain", unfollowed := true, recurses := true, apart := false, narrowed := true }
def ReconPlainUptoSaid : Prop := reconPlainUptoRow.holds Tryz.pinned (OpenSpec.upto reconPlainSpec)

end Rows
end Go.Proofs.YtnfedcaehkcffaaGreat
