/-
  No cell of these rows narrows 'for every input' (looked for: loops, veiled, ifaces, maps, wideKeys, modest, calm, conditions, laid).
  DERIVED. THE GIVEN ROWS OF THIS SEAT. 12 by the template 'for every input the law returns true; each argument reads behind the call as it read before'; 0 by the template 'total and deterministic' (their statements: YtnpnndifhlihhaaTotals.lean).
  GIVEN WITH THE SEED: the statements are not yours to turn. If you find one false, say at which input.
  Laid BY PROGRAM, IN A SANDBOX (cutbox-rows.mjs): the forced cells as the released guide's own fill.sh prints them over the translation 96d580ff6a1a7ffa… (all of the seat's roots in one cut). By AI agents, Wed Nov 11 2026. No macro, syntax, notation, axiom, sorry.
-/
import Derived.Test.YtnpnndifhlihhaaChecked
import GoSem.Claim
import GoSem.ClaimJoined
import GoSem.ClaimMapViews
import Derived.JoinedTies
import Derived.KernelRfl
namespace Go.Proofs.Ytnpnndifhlihhaa
/- THE CELL 'sum', in the pinned program and in every row, IS THE sha256 OF THE DUMP (.gsa) THAT YtnpnndifhlihhaaProg.lean LOADS. Nothing in Lean hashes anything: it is a label: what it is worth is what the hold of that sum in a sandbox is worth. -/
noncomputable def Try.pinned : Pinned := { name := "ytnpnndifhlihhaa", sum := "96d580ff6a1a7ffa0a74922e7219c13e7f307b3741406b450c6f03e1781b550e", checked := Try.checked }
namespace Rows
def none {H : Type} : Left H := { results := [], args := [] }

/-- 'scutagelaw25.FxDifference': WHATEVER THE INPUT: true; the input reads as it did. -/
def fxDifferenceSpec : ChangeSpec := { name := "fxDifference", fn := fun _ => fun
  | [d1, d2, d3] => { results := [.lit (.bool true)], args := [d1, d2, d3] }
  | _ => none }
def fxDifferenceRow : OpenClaim := { program := "ytnpnndifhlihhaa", sum := "96d580ff6a1a7ffa0a74922e7219c13e7f307b3741406b450c6f03e1781b550e", func := "scutage/scutagelaw25.FxDifference", spec := "fxDifference", recurses := true, apart := false }
def FxDifferenceSaid : Prop := fxDifferenceRow.holds Try.pinned (OpenSpec.ofChange fxDifferenceSpec)

/-- ITS FALSE NEIGHBOUR: 'it returns false'. Refute it at one input. -/
def fxDifferenceWrong : ChangeSpec := { name := "fxDifference", fn := fun _ => fun
  | [d1, d2, d3] => { results := [.lit (.bool false)], args := [d1, d2, d3] }
  | _ => none }
def FxDifferenceWrongFalsely : Prop := fxDifferenceRow.holds Try.pinned (OpenSpec.ofChange fxDifferenceWrong)

/-- 'scutagelaw06.JournalForms': WHATEVER THE INPUT: true; the input reads as it did. -/
def journalFormsSpec : ChangeSpec := { name := "journalForms", fn := fun _ => fun
  | [d] => { results := [.lit (.bool true)], args := [d] }
  | _ => none }
def journalFormsRow : OpenClaim := { program := "ytnpnndifhlihhaa", sum := "96d580ff6a1a7ffa0a74922e7219c13e7f307b3741406b450c6f03e1781b550e", func := "scutage/scutagelaw06.JournalForms", spec := "journalForms", unfollowed := true, recurses := true, apart := false }
def JournalFormsSaid : Prop := journalFormsRow.holds Try.pinned (OpenSpec.ofChange journalFormsSpec)

/-- ITS FALSE NEIGHBOUR: 'it returns false'. Refute it at one input. -/
def journalFormsWrong : ChangeSpec := { name := "journalForms", fn := fun _ => fun
  | [d] => { results := [.lit (.bool false)], args := [d] }
  | _ => none }
def JournalFormsWrongFalsely : Prop := journalFormsRow.holds Try.pinned (OpenSpec.ofChange journalFormsWrong)

/-- 'scutagelaw06.JournalJoins': WHATEVER THE INPUT: true; the input reads as it did. -/
def journalJoinsSpec : ChangeSpec := { name := "journalJoins", fn := fun _ => fun
  | [d1, d2, d3] => { results := [.lit (.bool true)], args := [d1, d2, d3] }
  | _ => none }
def journalJoinsRow : OpenClaim := { program := "ytnpnndifhlihhaa", sum := "96d580ff6a1a7ffa0a74922e7219c13e7f307b3741406b450c6f03e1781b550e", func := "scutage/scutagelaw06.JournalJoins", spec := "journalJoins", unfollowed := true, recurses := true, apart := false }
def JournalJoinsSaid : Prop := journalJoinsRow.holds Try.pinned (OpenSpec.ofChange journalJoinsSpec)

/-- ITS FALSE NEIGHBOUR: 'it returns false'. Refute it at one input. -/
def journalJoinsWrong : ChangeSpec := { name := "journalJoins", fn := fun _ => fun
  | [d1, d2, d3] => { results := [.lit (.bool false)], args := [d1, d2, d3] }
  | _ => none }
def JournalJoinsWrongFalsely : Prop := journalJoinsRow.holds Try.pinned (OpenSpec.ofChange journalJoinsWrong)

/-- 'scutagelaw06.JournalMerges': WHATEVER THE INPUT: true; the input reads as it did. -/
def journalMergesSpec : ChangeSpec := { name := "journalMerges", fn := fun _ => fun
  | [d1, d2, d3] => { results := [.lit (.bool true)], args := [d1, d2, d3] }
  | _ => none }
def journalMergesRow : OpenClaim := { program := "ytnpnndifhlihhaa", sum := "96d580ff6a1a7ffa0a74922e7219c13e7f307b3741406b450c6f03e1781b550e", func := "scutage/scutagelaw06.JournalMerges", spec := "journalMerges", unfollowed := true, recurses := true, apart := false }
def JournalMergesSaid : Prop := journalMergesRow.holds Try.pinned (OpenSpec.ofChange journalMergesSpec)

/-- ITS FALSE NEIGHBOUR: 'it returns false'. Refute it at one input. -/
def journalMergesWrong : ChangeSpec := { name := "journalMerges", fn := fun _ => fun
  | [d1, d2, d3] => { results := [.lit (.bool false)], args := [d1, d2, d3] }
  | _ => none }
def JournalMergesWrongFalsely : Prop := journalMergesRow.holds Try.pinned (OpenSpec.ofChange journalMergesWrong)

/-- 'scutagelaw06.JournalTells': WHATEVER THE INPUT: true; the input reads as it did. -/
def journalTellsSpec : ChangeSpec := { name := "journalTells", fn := fun _ => fun
  | [d1, d2, d3, d4, d5, d6] => { results := [.lit (.bool true)], args := [d1, d2, d3, d4, d5, d6] }
  | _ => none }
def journalTellsRow : OpenClaim := { program := "ytnpnndifhlihhaa", sum := "96d580ff6a1a7ffa0a74922e7219c13e7f307b3741406b450c6f03e1781b550e", func := "scutage/scutagelaw06.JournalTells", spec := "journalTells", unfollowed := true, recurses := true, apart := false }
def JournalTellsSaid : Prop := journalTellsRow.holds Try.pinned (OpenSpec.ofChange journalTellsSpec)

/-- ITS FALSE NEIGHBOUR: 'it returns false'. Refute it at one input. -/
def journalTellsWrong : ChangeSpec := { name := "journalTells", fn := fun _ => fun
  | [d1, d2, d3, d4, d5, d6] => { results := [.lit (.bool false)], args := [d1, d2, d3, d4, d5, d6] }
  | _ => none }
def JournalTellsWrongFalsely : Prop := journalTellsRow.holds Try.pinned (OpenSpec.ofChange journalTellsWrong)

/-- 'scutagelaw07.StoreErrors': WHATEVER THE INPUT: true; the input reads as it did. -/
def storeErrorsSpec : ChangeSpec := { name := "storeErrors", fn := fun _ => fun
  | [d1, d2] => { results := [.lit (.bool true)], args := [d1, d2] }
  | _ => none }
def storeErrorsRow : OpenClaim := { program := "ytnpnndifhlihhaa", sum := "96d580ff6a1a7ffa0a74922e7219c13e7f307b3741406b450c6f03e1781b550e", func := "scutage/scutagelaw07.StoreErrors", spec := "storeErrors", unfollowed := true, recurses := true, apart := false }
def StoreErrorsSaid : Prop := storeErrorsRow.holds Try.pinned (OpenSpec.ofChange storeErrorsSpec)

/-- ITS FALSE NEIGHBOUR: 'it returns false'. Refute it at one input. -/
def storeErrorsWrong : ChangeSpec := { name := "storeErrors", fn := fun _ => fun
  | [d1, d2] => { results := [.lit (.bool false)], args := [d1, d2] }
  | _ => none }
def StoreErrorsWrongFalsely : Prop := storeErrorsRow.holds Try.pinned (OpenSpec.ofChange storeErrorsWrong)

/-- 'scutagelaw07.StoreMany': WHATEVER THE INPUT: true; the input reads as it did. -/
def storeManySpec : ChangeSpec := { name := "storeMany", fn := fun _ => fun
  | [d] => { results := [.lit (.bool true)], args := [d] }
  | _ => none }
def storeManyRow : OpenClaim := { program := "ytnpnndifhlihhaa", sum := "96d580ff6a1a7ffa0a74922e7219c13e7f307b3741406b450c6f03e1781b550e", func := "scutage/scutagelaw07.StoreMany", spec := "storeMany", unfollowed := true, recurses := true, apart := false }
def StoreManySaid : Prop := storeManyRow.holds Try.pinned (OpenSpec.ofChange storeManySpec)

/-- ITS FALSE NEIGHBOUR: 'it returns false'. Refute it at one input. -/
def storeManyWrong : ChangeSpec := { name := "storeMany", fn := fun _ => fun
  | [d] => { results := [.lit (.bool false)], args := [d] }
  | _ => none }
def StoreManyWrongFalsely : Prop := storeManyRow.holds Try.pinned (OpenSpec.ofChange storeManyWrong)

/-- 'scutagelaw07.StoreOwn': WHATEVER THE INPUT: true; the input reads as it did. -/
def storeOwnSpec : ChangeSpec := { name := "storeOwn", fn := fun _ => fun
  | [d1, d2, d3] => { results := [.lit (.bool true)], args := [d1, d2, d3] }
  | _ => none }
def storeOwnRow : OpenClaim := { program := "ytnpnndifhlihhaa", sum := "96d580ff6a1a7ffa0a74922e7219c13e7f307b3741406b450c6f03e1781b550e", func := "scutage/scutagelaw07.StoreOwn", spec := "storeOwn", unfollowed := true, recurses := true, apart := false }
def StoreOwnSaid : Prop := storeOwnRow.holds Try.pinned (OpenSpec.ofChange storeOwnSpec)

/-- ITS FALSE NEIGHBOUR: 'it returns false'. Refute it at one input. -/
def storeOwnWrong : ChangeSpec := { name := "storeOwn", fn := fun _ => fun
  | [d1, d2, d3] => { results := [.lit (.bool false)], args := [d1, d2, d3] }
  | _ => none }
def StoreOwnWrongFalsely : Prop := storeOwnRow.holds Try.pinned (OpenSpec.ofChange storeOwnWrong)

/-- 'scutagelaw07.StorePlays': WHATEVER THE INPUT: true; the input reads as it did. -/
def storePlaysSpec : ChangeSpec := { name := "storePlays", fn := fun _ => fun
  | [d] => { results := [.lit (.bool true)], args := [d] }
  | _ => none }
def storePlaysRow : OpenClaim := { program := "ytnpnndifhlihhaa", sum := "96d580ff6a1a7ffa0a74922e7219c13e7f307b3741406b450c6f03e1781b550e", func := "scutage/scutagelaw07.StorePlays", spec := "storePlays", unfollowed := true, recurses := true, apart := false }
def StorePlaysSaid : Prop := storePlaysRow.holds Try.pinned (OpenSpec.ofChange storePlaysSpec)

/-- ITS FALSE NEIGHBOUR: 'it returns false'. Refute it at one input. -/
def storePlaysWrong : ChangeSpec := { name := "storePlays", fn := fun _ => fun
  | [d] => { results := [.lit (.bool false)], args := [d] }
  | _ => none }
def StorePlaysWrongFalsely : Prop := storePlaysRow.holds Try.pinned (OpenSpec.ofChange storePlaysWrong)

/-- 'scutagelaw07.StoreTurns': WHATEVER THE INPUT: true; the input reads as it did. -/
def storeTurnsSpec : ChangeSpec := { name := "storeTurns", fn := fun _ => fun
  | [d1, d2, d3, d4] => { results := [.lit (.bool true)], args := [d1, d2, d3, d4] }
  | _ => none }
def storeTurnsRow : OpenClaim := { program := "ytnpnndifhlihhaa", sum := "96d580ff6a1a7ffa0a74922e7219c13e7f307b3741406b450c6f03e1781b550e", func := "scutage/scutagelaw07.StoreTurns", spec := "storeTurns", unfollowed := true, recurses := true, apart := false }
def StoreTurnsSaid : Prop := storeTurnsRow.holds Try.pinned (OpenSpec.ofChange storeTurnsSpec)

/-- ITS FALSE NEIGHBOUR: 'it returns false'. Refute it at one input. -/
def storeTurnsWrong : ChangeSpec := { name := "storeTurns", fn := fun _ => fun
  | [d1, d2, d3, d4] => { results := [.lit (.bool false)], args := [d1, d2, d3, d4] }
  | _ => none }
def StoreTurnsWrongFalsely : Prop := storeTurnsRow.holds Try.pinned (OpenSpec.ofChange storeTurnsWrong)

/-- 'scutagelaw25.FxTells': WHATEVER THE INPUT: true; the input reads as it did. -/
def fxTellsSpec : ChangeSpec := { name := "fxTells", fn := fun _ => fun
  | [d1, d2, d3, d4, d5] => { results := [.lit (.bool true)], args := [d1, d2, d3, d4, d5] }
  | _ => none }
def fxTellsRow : OpenClaim := { program := "ytnpnndifhlihhaa", sum := "96d580ff6a1a7ffa0a74922e7219c13e7f307b3741406b450c6f03e1781b550e", func := "scutage/scutagelaw25.FxTells", spec := "fxTells", unfollowed := true, recurses := true, apart := false }
def FxTellsSaid : Prop := fxTellsRow.holds Try.pinned (OpenSpec.ofChange fxTellsSpec)

/-- ITS FALSE NEIGHBOUR: 'it returns false'. Refute it at one input. -/
def fxTellsWrong : ChangeSpec := { name := "fxTells", fn := fun _ => fun
  | [d1, d2, d3, d4, d5] => { results := [.lit (.bool false)], args := [d1, d2, d3, d4, d5] }
  | _ => none }
def FxTellsWrongFalsely : Prop := fxTellsRow.holds Try.pinned (OpenSpec.ofChange fxTellsWrong)

/-- 'scutagelaw25.FxAdds': WHATEVER THE INPUT: true; the input reads as it did. -/
def fxAddsSpec : ChangeSpec := { name := "fxAdds", fn := fun _ => fun
  | [d1, d2, d3] => { results := [.lit (.bool true)], args := [d1, d2, d3] }
  | _ => none }
def fxAddsRow : OpenClaim := { program := "ytnpnndifhlihhaa", sum := "96d580ff6a1a7ffa0a74922e7219c13e7f307b3741406b450c6f03e1781b550e", func := "scutage/scutagelaw25.FxAdds", spec := "fxAdds", unfollowed := true, recurses := true, apart := false }
def FxAddsSaid : Prop := fxAddsRow.holds Try.pinned (OpenSpec.ofChange fxAddsSpec)

/-- ITS FALSE NEIGHBOUR: 'it returns false'. Refute it at one input. -/
def fxAddsWrong : ChangeSpec := { name := "fxAdds", fn := fun _ => fun
  | [d1, d2, d3] => { results := [.lit (.bool false)], args := [d1, d2, d3] }
  | _ => none }
def FxAddsWrongFalsely : Prop := fxAddsRow.holds Try.pinned (OpenSpec.ofChange fxAddsWrong)

/- THE SECOND FORM. 'bulk': how many values and letters a reading holds, each counted each time it is reached (what is shared counts as often as it is met; a slice's spare places count too). A statement '..UptoSaid' is the law's where the arguments, and the package variables that the reading takes, are together of bulk at most 1048576: NARROWER than '..Said'. Prove '..Said' where nothing that the law and all that it calls make is longer than what came in: it says more and counts as full. Else prove '..UptoSaid'. A law counts once. -/
mutual
def uptoBulk {H : Type} : DataW H → Nat
  | .lit (.string bytes) => bytes.length + 1
  | .lit _ => 1
  | .nil => 1
  | .ptr d => uptoBulk d + 1
  | .slice elems spare => uptoBulkAll elems + uptoBulkAll spare + 1
  | .agg parts => uptoBulkAll parts + 1
  | .iface _ d => uptoBulk d + 1
  | .map entries => uptoBulkEntries entries + 1
  | .held _ => 1
def uptoBulkAll {H : Type} : List (DataW H) → Nat
  | [] => 0
  | d :: r => uptoBulk d + uptoBulkAll r
def uptoBulkEntries {H : Type} : List (Lit × DataW H) → Nat
  | [] => 0
  | x :: r => uptoBulkEntry x + uptoBulkEntries r
def uptoBulkEntry {H : Type} : Lit × DataW H → Nat
  | (.string bytes, d) => bytes.length + uptoBulk d + 1
  | (_, d) => uptoBulk d + 1
 end
def uptoSmall : (H : Type) → List (DataW H) → Bool := fun _ ds => decide (uptoBulkAll ds ≤ 1048576)
def OpenSpec.upto (s : _root_.Go.ChangeSpec) : _root_.Go.OpenSpec := { _root_.Go.OpenSpec.ofChange s with cond := some uptoSmall }

/-- 'scutagelaw25.FxDifference', WHERE WHAT IT READS IS OF BULK AT MOST 1048576: true; the input reads as it did. -/
def fxDifferenceUptoRow : OpenClaim := { program := "ytnpnndifhlihhaa", sum := "96d580ff6a1a7ffa0a74922e7219c13e7f307b3741406b450c6f03e1781b550e", func := "scutage/scutagelaw25.FxDifference", spec := "fxDifference", recurses := true, apart := false, narrowed := true }
def FxDifferenceUptoSaid : Prop := fxDifferenceUptoRow.holds Try.pinned (OpenSpec.upto fxDifferenceSpec)

/-- 'scutagelaw06.JournalForms', WHERE WHAT IT READS IS OF BULK AT MOST 1048576: true; the input reads as it did. -/
def journalFormsUptoRow : OpenClaim := { program := "ytnpnndifhlihhaa", sum := "96d580ff6a1a7ffa0a74922e7219c13e7f307b3741406b450c6f03e1781b550e", func := "scutage/scutagelaw06.JournalForms", spec := "journalForms", unfollowed := true, recurses := true, apart := false, narrowed := true }
def JournalFormsUptoSaid : Prop := journalFormsUptoRow.holds Try.pinned (OpenSpec.upto journalFormsSpec)

/-- 'scutagelaw06.JournalJoins', WHERE WHAT IT READS IS OF BULK AT MOST 1048576: true; the input reads as it did. -/
def journalJoinsUptoRow : OpenClaim := { program := "ytnpnndifhlihhaa", sum := "96d580ff6a1a7ffa0a74922e7219c13e7f307b3741406b450c6f03e1781b550e", func := "scutage/scutagelaw06.JournalJoins", spec := "journalJoins", unfollowed := true, recurses := true, apart := false, narrowed := true }
def JournalJoinsUptoSaid : Prop := journalJoinsUptoRow.holds Try.pinned (OpenSpec.upto journalJoinsSpec)

/-- 'scutagelaw06.JournalMerges', WHERE WHAT IT READS IS OF BULK AT MOST 1048576: true; the input reads as it did. -/
def journalMergesUptoRow : OpenClaim := { program := "ytnpnndifhlihhaa", sum := "96d580ff6a1a7ffa0a74922e7219c13e7f307b3741406b450c6f03e1781b550e", func := "scutage/scutagelaw06.JournalMerges", spec := "journalMerges", unfollowed := true, recurses := true, apart := false, narrowed := true }
def JournalMergesUptoSaid : Prop := journalMergesUptoRow.holds Try.pinned (OpenSpec.upto journalMergesSpec)

/-- 'scutagelaw06.JournalTells', WHERE WHAT IT READS IS OF BULK AT MOST 1048576: true; the input reads as it did. -/
def journalTellsUptoRow : OpenClaim := { program := "ytnpnndifhlihhaa", sum := "96d580ff6a1a7ffa0a74922e7219c13e7f307b3741406b450c6f03e1781b550e", func := "scutage/scutagelaw06.JournalTells", spec := "journalTells", unfollowed := true, recurses := true, apart := false, narrowed := true }
def JournalTellsUptoSaid : Prop := journalTellsUptoRow.holds Try.pinned (OpenSpec.upto journalTellsSpec)

/-- 'scutagelaw07.StoreErrors', WHERE WHAT IT READS IS OF BULK AT MOST 1048576: true; the input reads as it did. -/
def storeErrorsUptoRow : OpenClaim := { program := "ytnpnndifhlihhaa", sum := "96d580ff6a1a7ffa0a74922e7219c13e7f307b3741406b450c6f03e1781b550e", func := "scutage/scutagelaw07.StoreErrors", spec := "storeErrors", unfollowed := true, recurses := true, apart := false, narrowed := true }
def StoreErrorsUptoSaid : Prop := storeErrorsUptoRow.holds Try.pinned (OpenSpec.upto storeErrorsSpec)

/-- 'scutagelaw07.StoreMany', WHERE WHAT IT READS IS OF BULK AT MOST 1048576: true; the input reads as it did. -/
def storeManyUptoRow : OpenClaim := { program := "ytnpnndifhlihhaa", sum := "96d580ff6a1a7ffa0a74922e7219c13e7f307b3741406b450c6f03e1781b550e", func := "scutage/scutagelaw07.StoreMany", spec := "storeMany", unfollowed := true, recurses := true, apart := false, narrowed := true }
def StoreManyUptoSaid : Prop := storeManyUptoRow.holds Try.pinned (OpenSpec.upto storeManySpec)

/-- 'scutagelaw07.StoreOwn', WHERE WHAT IT READS IS OF BULK AT MOST 1048576: true; the input reads as it did. -/
def storeOwnUptoRow : OpenClaim := { program := "ytnpnndifhlihhaa", sum := "96d580ff6a1a7ffa0a74922e7219c13e7f307b3741406b450c6f03e1781b550e", func := "scutage/scutagelaw07.StoreOwn", spec := "storeOwn", unfollowed := true, recurses := true, apart := false, narrowed := true }
def StoreOwnUptoSaid : Prop := storeOwnUptoRow.holds Try.pinned (OpenSpec.upto storeOwnSpec)

/-- 'scutagelaw07.StorePlays', WHERE WHAT IT READS IS OF BULK AT MOST 1048576: true; the input reads as it did. -/
def storePlaysUptoRow : OpenClaim := { program := "ytnpnndifhlihhaa", sum := "96d580ff6a1a7ffa0a74922e7219c13e7f307b3741406b450c6f03e1781b550e", func := "scutage/scutagelaw07.StorePlays", spec := "storePlays", unfollowed := true, recurses := true, apart := false, narrowed := true }
def StorePlaysUptoSaid : Prop := storePlaysUptoRow.holds Try.pinned (OpenSpec.upto storePlaysSpec)

/-- 'scutagelaw07.StoreTurns', WHERE WHAT IT READS IS OF BULK AT MOST 1048576: true; the input reads as it did. -/
def storeTurnsUptoRow : OpenClaim := { program := "ytnpnndifhlihhaa", sum := "96d580ff6a1a7ffa0a74922e7219c13e7f307b3741406b450c6f03e1781b550e", func := "scutage/scutagelaw07.StoreTurns", spec := "storeTurns", unfollowed := true, recurses := true, apart := false, narrowed := true }
def StoreTurnsUptoSaid : Prop := storeTurnsUptoRow.holds Try.pinned (OpenSpec.upto storeTurnsSpec)

/-- 'scutagelaw25.FxTells', WHERE WHAT IT READS IS OF BULK AT MOST 1048576: true; the input reads as it did. -/
def fxTellsUptoRow : OpenClaim := { program := "ytnpnndifhlihhaa", sum := "96d580ff6a1a7ffa0a74922e7219c13e7f307b3741406b450c6f03e1781b550e", func := "scutage/scutagelaw25.FxTells", spec := "fxTells", unfollowed := true, recurses := true, apart := false, narrowed := true }
def FxTellsUptoSaid : Prop := fxTellsUptoRow.holds Try.pinned (OpenSpec.upto fxTellsSpec)

/-- 'scutagelaw25.FxAdds', WHERE WHAT IT READS IS OF BULK AT MOST 1048576: true; the input reads as it did. -/
def fxAddsUptoRow : OpenClaim := { program := "ytnpnndifhlihhaa", sum := "96d580ff6a1a7ffa0a74922e7219c13e7f307b3741406b450c6f03e1781b550e", func := "scutage/scutagelaw25.FxAdds", spec := "fxAdds", unfollowed := true, recurses := true, apart := false, narrowed := true }
def FxAddsUptoSaid : Prop := fxAddsUptoRow.holds Try.pinned (OpenSpec.upto fxAddsSpec)

end Rows
end Go.Proofs.Ytnpnndifhlihhaa
