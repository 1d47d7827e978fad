/-
  No cell of these rows narrows 'for every input' (looked for: loops, veiled, ifaces, maps, wideKeys, modest, calm, conditions, laid).
  DERIVED. THE GIVEN ROWS OF THIS SEAT. 9 by the template 'for every input the law returns true; each argument reads behind the call as it read before'; 0 by the template 'total and deterministic' (their statements: YtpigoegjoagbnaaTotals.lean).
  GIVEN WITH THE SEED: the statements are not yours to turn. If you find one false, say at which input.
  Laid BY PROGRAM, IN A SANDBOX (cutbox-rows.mjs): the forced cells as the released guide's own fill.sh prints them over the translation a4041fccb18c2ccc… (all of the seat's roots in one cut). By AI agents, Wed Nov 11 2026. No macro, syntax, notation, axiom, sorry.
-/
import Derived.Test.YtpigoegjoagbnaaChecked
import GoSem.Claim
import GoSem.ClaimJoined
import GoSem.ClaimMapViews
import Derived.JoinedTies
import Derived.KernelRfl
namespace Go.Proofs.Ytpigoegjoagbnaa
/- THE CELL 'sum', in the pinned program and in every row, IS THE sha256 OF THE DUMP (.gsa) THAT YtpigoegjoagbnaaProg.lean LOADS. Nothing in Lean hashes anything: it is a label: what it is worth is what the hold of that sum in a sandbox is worth. -/
noncomputable def Try.pinned : Pinned := { name := "ytpigoegjoagbnaa", sum := "a4041fccb18c2cccf6a65a874605df0c4c42890dbf473552d83343ef18ee0112", checked := Try.checked }
namespace Rows
def none {H : Type} : Left H := { results := [], args := [] }

/-- 'scutagelaw13.VintageYears': WHATEVER THE INPUT: true; the input reads as it did. -/
def vintageYearsSpec : ChangeSpec := { name := "vintageYears", fn := fun _ => fun
  | [d1, d2] => { results := [.lit (.bool true)], args := [d1, d2] }
  | _ => none }
def vintageYearsRow : OpenClaim := { program := "ytpigoegjoagbnaa", sum := "a4041fccb18c2cccf6a65a874605df0c4c42890dbf473552d83343ef18ee0112", func := "scutage/scutagelaw13.VintageYears", spec := "vintageYears", unfollowed := true, recurses := true, apart := false }
def VintageYearsSaid : Prop := vintageYearsRow.holds Try.pinned (OpenSpec.ofChange vintageYearsSpec)

/-- ITS FALSE NEIGHBOUR: 'it returns false'. Refute it at one input. -/
def vintageYearsWrong : ChangeSpec := { name := "vintageYears", fn := fun _ => fun
  | [d1, d2] => { results := [.lit (.bool false)], args := [d1, d2] }
  | _ => none }
def VintageYearsWrongFalsely : Prop := vintageYearsRow.holds Try.pinned (OpenSpec.ofChange vintageYearsWrong)

/-- 'scutagelaw13.VintageErrors': WHATEVER THE INPUT: true; the input reads as it did. -/
def vintageErrorsSpec : ChangeSpec := { name := "vintageErrors", fn := fun _ => fun
  | [d] => { results := [.lit (.bool true)], args := [d] }
  | _ => none }
def vintageErrorsRow : OpenClaim := { program := "ytpigoegjoagbnaa", sum := "a4041fccb18c2cccf6a65a874605df0c4c42890dbf473552d83343ef18ee0112", func := "scutage/scutagelaw13.VintageErrors", spec := "vintageErrors", unfollowed := true, recurses := true, apart := false }
def VintageErrorsSaid : Prop := vintageErrorsRow.holds Try.pinned (OpenSpec.ofChange vintageErrorsSpec)

/-- ITS FALSE NEIGHBOUR: 'it returns false'. Refute it at one input. -/
def vintageErrorsWrong : ChangeSpec := { name := "vintageErrors", fn := fun _ => fun
  | [d] => { results := [.lit (.bool false)], args := [d] }
  | _ => none }
def VintageErrorsWrongFalsely : Prop := vintageErrorsRow.holds Try.pinned (OpenSpec.ofChange vintageErrorsWrong)

/-- 'scutagelaw13.VintageKept': WHATEVER THE INPUT: true; the input reads as it did. -/
def vintageKeptSpec : ChangeSpec := { name := "vintageKept", fn := fun _ => fun
  | [d] => { results := [.lit (.bool true)], args := [d] }
  | _ => none }
def vintageKeptRow : OpenClaim := { program := "ytpigoegjoagbnaa", sum := "a4041fccb18c2cccf6a65a874605df0c4c42890dbf473552d83343ef18ee0112", func := "scutage/scutagelaw13.VintageKept", spec := "vintageKept", unfollowed := true, recurses := true, apart := false }
def VintageKeptSaid : Prop := vintageKeptRow.holds Try.pinned (OpenSpec.ofChange vintageKeptSpec)

/-- ITS FALSE NEIGHBOUR: 'it returns false'. Refute it at one input. -/
def vintageKeptWrong : ChangeSpec := { name := "vintageKept", fn := fun _ => fun
  | [d] => { results := [.lit (.bool false)], args := [d] }
  | _ => none }
def VintageKeptWrongFalsely : Prop := vintageKeptRow.holds Try.pinned (OpenSpec.ofChange vintageKeptWrong)

/-- 'scutagelaw13.VintageOrder': WHATEVER THE INPUT: true; the input reads as it did. -/
def vintageOrderSpec : ChangeSpec := { name := "vintageOrder", fn := fun _ => fun
  | [d] => { results := [.lit (.bool true)], args := [d] }
  | _ => none }
def vintageOrderRow : OpenClaim := { program := "ytpigoegjoagbnaa", sum := "a4041fccb18c2cccf6a65a874605df0c4c42890dbf473552d83343ef18ee0112", func := "scutage/scutagelaw13.VintageOrder", spec := "vintageOrder", unfollowed := true, recurses := true, apart := false }
def VintageOrderSaid : Prop := vintageOrderRow.holds Try.pinned (OpenSpec.ofChange vintageOrderSpec)

/-- ITS FALSE NEIGHBOUR: 'it returns false'. Refute it at one input. -/
def vintageOrderWrong : ChangeSpec := { name := "vintageOrder", fn := fun _ => fun
  | [d] => { results := [.lit (.bool false)], args := [d] }
  | _ => none }
def VintageOrderWrongFalsely : Prop := vintageOrderRow.holds Try.pinned (OpenSpec.ofChange vintageOrderWrong)

/-- 'scutagelaw13.VintagePlays': WHATEVER THE INPUT: true; the input reads as it did. -/
def vintagePlaysSpec : ChangeSpec := { name := "vintagePlays", fn := fun _ => fun
  | [d] => { results := [.lit (.bool true)], args := [d] }
  | _ => none }
def vintagePlaysRow : OpenClaim := { program := "ytpigoegjoagbnaa", sum := "a4041fccb18c2cccf6a65a874605df0c4c42890dbf473552d83343ef18ee0112", func := "scutage/scutagelaw13.VintagePlays", spec := "vintagePlays", unfollowed := true, recurses := true, apart := false }
def VintagePlaysSaid : Prop := vintagePlaysRow.holds Try.pinned (OpenSpec.ofChange vintagePlaysSpec)

/-- ITS FALSE NEIGHBOUR: 'it returns false'. Refute it at one input. -/
def vintagePlaysWrong : ChangeSpec := { name := "vintagePlays", fn := fun _ => fun
  | [d] => { results := [.lit (.bool false)], args := [d] }
  | _ => none }
def VintagePlaysWrongFalsely : Prop := vintagePlaysRow.holds Try.pinned (OpenSpec.ofChange vintagePlaysWrong)

/-- 'scutagelaw15.CurrentYears': WHATEVER THE INPUT: true; the input reads as it did. -/
def currentYearsSpec : ChangeSpec := { name := "currentYears", fn := fun _ => fun
  | [d1, d2, d3, d4] => { results := [.lit (.bool true)], args := [d1, d2, d3, d4] }
  | _ => none }
def currentYearsRow : OpenClaim := { program := "ytpigoegjoagbnaa", sum := "a4041fccb18c2cccf6a65a874605df0c4c42890dbf473552d83343ef18ee0112", func := "scutage/scutagelaw15.CurrentYears", spec := "currentYears", unfollowed := true, recurses := true, apart := false }
def CurrentYearsSaid : Prop := currentYearsRow.holds Try.pinned (OpenSpec.ofChange currentYearsSpec)

/-- ITS FALSE NEIGHBOUR: 'it returns false'. Refute it at one input. -/
def currentYearsWrong : ChangeSpec := { name := "currentYears", fn := fun _ => fun
  | [d1, d2, d3, d4] => { results := [.lit (.bool false)], args := [d1, d2, d3, d4] }
  | _ => none }
def CurrentYearsWrongFalsely : Prop := currentYearsRow.holds Try.pinned (OpenSpec.ofChange currentYearsWrong)

/-- 'scutagelaw15.CurrentErrors': WHATEVER THE INPUT: true; the input reads as it did. -/
def currentErrorsSpec : ChangeSpec := { name := "currentErrors", fn := fun _ => fun
  | [d] => { results := [.lit (.bool true)], args := [d] }
  | _ => none }
def currentErrorsRow : OpenClaim := { program := "ytpigoegjoagbnaa", sum := "a4041fccb18c2cccf6a65a874605df0c4c42890dbf473552d83343ef18ee0112", func := "scutage/scutagelaw15.CurrentErrors", spec := "currentErrors", unfollowed := true, recurses := true, apart := false }
def CurrentErrorsSaid : Prop := currentErrorsRow.holds Try.pinned (OpenSpec.ofChange currentErrorsSpec)

/-- ITS FALSE NEIGHBOUR: 'it returns false'. Refute it at one input. -/
def currentErrorsWrong : ChangeSpec := { name := "currentErrors", fn := fun _ => fun
  | [d] => { results := [.lit (.bool false)], args := [d] }
  | _ => none }
def CurrentErrorsWrongFalsely : Prop := currentErrorsRow.holds Try.pinned (OpenSpec.ofChange currentErrorsWrong)

/-- 'scutagelaw15.CurrentTells': WHATEVER THE INPUT: true; the input reads as it did. -/
def currentTellsSpec : ChangeSpec := { name := "currentTells", fn := fun _ => fun
  | [d1, d2, d3, d4, d5, d6, d7, d8, d9] => { results := [.lit (.bool true)], args := [d1, d2, d3, d4, d5, d6, d7, d8, d9] }
  | _ => none }
def currentTellsRow : OpenClaim := { program := "ytpigoegjoagbnaa", sum := "a4041fccb18c2cccf6a65a874605df0c4c42890dbf473552d83343ef18ee0112", func := "scutage/scutagelaw15.CurrentTells", spec := "currentTells", unfollowed := true, recurses := true, apart := false }
def CurrentTellsSaid : Prop := currentTellsRow.holds Try.pinned (OpenSpec.ofChange currentTellsSpec)

/-- ITS FALSE NEIGHBOUR: 'it returns false'. Refute it at one input. -/
def currentTellsWrong : ChangeSpec := { name := "currentTells", fn := fun _ => fun
  | [d1, d2, d3, d4, d5, d6, d7, d8, d9] => { results := [.lit (.bool false)], args := [d1, d2, d3, d4, d5, d6, d7, d8, d9] }
  | _ => none }
def CurrentTellsWrongFalsely : Prop := currentTellsRow.holds Try.pinned (OpenSpec.ofChange currentTellsWrong)

/-- 'scutagelaw15.CurrentLaws': WHATEVER THE INPUT: true; the input reads as it did. -/
def currentLawsSpec : ChangeSpec := { name := "currentLaws", fn := fun _ => fun
  | [d1, d2, d3, d4, d5, d6, d7, d8] => { results := [.lit (.bool true)], args := [d1, d2, d3, d4, d5, d6, d7, d8] }
  | _ => none }
def currentLawsRow : OpenClaim := { program := "ytpigoegjoagbnaa", sum := "a4041fccb18c2cccf6a65a874605df0c4c42890dbf473552d83343ef18ee0112", func := "scutage/scutagelaw15.CurrentLaws", spec := "currentLaws", unfollowed := true, recurses := true, apart := false }
def CurrentLawsSaid : Prop := currentLawsRow.holds Try.pinned (OpenSpec.ofChange currentLawsSpec)

/-- ITS FALSE NEIGHBOUR: 'it returns false'. Refute it at one input. -/
def currentLawsWrong : ChangeSpec := { name := "currentLaws", fn := fun _ => fun
  | [d1, d2, d3, d4, d5, d6, d7, d8] => { results := [.lit (.bool false)], args := [d1, d2, d3, d4, d5, d6, d7, d8] }
  | _ => none }
def CurrentLawsWrongFalsely : Prop := currentLawsRow.holds Try.pinned (OpenSpec.ofChange currentLawsWrong)

/- THE SECOND FORM. 'bulk': how many values and letters a reading holds, each counted each time it is reached (what is shared counts as often as it is met; a slice's spare places count too). A statement '..UptoSaid' is the law's where the arguments, and the package variables that the reading takes, are together of bulk at most 1048576: NARROWER than '..Said'. Prove '..Said' where nothing that the law and all that it calls make is longer than what came in: it says more and counts as full. Else prove '..UptoSaid'. A law counts once. -/
mutual
def uptoBulk {H : Type} : DataW H → Nat
  | .lit (.string bytes) => bytes.length + 1
  | .lit _ => 1
  | .nil => 1
  | .ptr d => uptoBulk d + 1
  | .slice elems spare => uptoBulkAll elems + uptoBulkAll spare + 1
  | .agg parts => uptoBulkAll parts + 1
  | .iface _ d => uptoBulk d + 1
  | .map entries => uptoBulkEntries entries + 1
  | .held _ => 1
def uptoBulkAll {H : Type} : List (DataW H) → Nat
  | [] => 0
  | d :: r => uptoBulk d + uptoBulkAll r
def uptoBulkEntries {H : Type} : List (Lit × DataW H) → Nat
  | [] => 0
  | x :: r => uptoBulkEntry x + uptoBulkEntries r
def uptoBulkEntry {H : Type} : Lit × DataW H → Nat
  | (.string bytes, d) => bytes.length + uptoBulk d + 1
  | (_, d) => uptoBulk d + 1
 end
def uptoSmall : (H : Type) → List (DataW H) → Bool := fun _ ds => decide (uptoBulkAll ds ≤ 1048576)
def OpenSpec.upto (s : _root_.Go.ChangeSpec) : _root_.Go.OpenSpec := { _root_.Go.OpenSpec.ofChange s with cond := some uptoSmall }

/-- 'scutagelaw13.VintageYears', WHERE WHAT IT READS IS OF BULK AT MOST 1048576: true; the input reads as it did. -/
def vintageYearsUptoRow : OpenClaim := { program := "ytpigoegjoagbnaa", sum := "a4041fccb18c2cccf6a65a874605df0c4c42890dbf473552d83343ef18ee0112", func := "scutage/scutagelaw13.VintageYears", spec := "vintageYears", unfollowed := true, recurses := true, apart := false, narrowed := true }
def VintageYearsUptoSaid : Prop := vintageYearsUptoRow.holds Try.pinned (OpenSpec.upto vintageYearsSpec)

/-- 'scutagelaw13.VintageErrors', WHERE WHAT IT READS IS OF BULK AT MOST 1048576: true; the input reads as it did. -/
def vintageErrorsUptoRow : OpenClaim := { program := "ytpigoegjoagbnaa", sum := "a4041fccb18c2cccf6a65a874605df0c4c42890dbf473552d83343ef18ee0112", func := "scutage/scutagelaw13.VintageErrors", spec := "vintageErrors", unfollowed := true, recurses := true, apart := false, narrowed := true }
def VintageErrorsUptoSaid : Prop := vintageErrorsUptoRow.holds Try.pinned (OpenSpec.upto vintageErrorsSpec)

/-- 'scutagelaw13.VintageKept', WHERE WHAT IT READS IS OF BULK AT MOST 1048576: true; the input reads as it did. -/
def vintageKeptUptoRow : OpenClaim := { program := "ytpigoegjoagbnaa", sum := "a4041fccb18c2cccf6a65a874605df0c4c42890dbf473552d83343ef18ee0112", func := "scutage/scutagelaw13.VintageKept", spec := "vintageKept", unfollowed := true, recurses := true, apart := false, narrowed := true }
def VintageKeptUptoSaid : Prop := vintageKeptUptoRow.holds Try.pinned (OpenSpec.upto vintageKeptSpec)

/-- 'scutagelaw13.VintageOrder', WHERE WHAT IT READS IS OF BULK AT MOST 1048576: true; the input reads as it did. -/
def vintageOrderUptoRow : OpenClaim := { program := "ytpigoegjoagbnaa", sum := "a4041fccb18c2cccf6a65a874605df0c4c42890dbf473552d83343ef18ee0112", func := "scutage/scutagelaw13.VintageOrder", spec := "vintageOrder", unfollowed := true, recurses := true, apart := false, narrowed := true }
def VintageOrderUptoSaid : Prop := vintageOrderUptoRow.holds Try.pinned (OpenSpec.upto vintageOrderSpec)

/-- 'scutagelaw13.VintagePlays', WHERE WHAT IT READS IS OF BULK AT MOST 1048576: true; the input reads as it did. -/
def vintagePlaysUptoRow : OpenClaim := { program := "ytpigoegjoagbnaa", sum := "a4041fccb18c2cccf6a65a874605df0c4c42890dbf473552d83343ef18ee0112", func := "scutage/scutagelaw13.VintagePlays", spec := "vintagePlays", unfollowed := true, recurses := true, apart := false, narrowed := true }
def VintagePlaysUptoSaid : Prop := vintagePlaysUptoRow.holds Try.pinned (OpenSpec.upto vintagePlaysSpec)

/-- 'scutagelaw15.CurrentYears', WHERE WHAT IT READS IS OF BULK AT MOST 1048576: true; the input reads as it did. -/
def currentYearsUptoRow : OpenClaim := { program := "ytpigoegjoagbnaa", sum := "a4041fccb18c2cccf6a65a874605df0c4c42890dbf473552d83343ef18ee0112", func := "scutage/scutagelaw15.CurrentYears", spec := "currentYears", unfollowed := true, recurses := true, apart := false, narrowed := true }
def CurrentYearsUptoSaid : Prop := currentYearsUptoRow.holds Try.pinned (OpenSpec.upto currentYearsSpec)

/-- 'scutagelaw15.CurrentErrors', WHERE WHAT IT READS IS OF BULK AT MOST 1048576: true; the input reads as it did. -/
def currentErrorsUptoRow : OpenClaim := { program := "ytpigoegjoagbnaa", sum := "a4041fccb18c2cccf6a65a874605df0c4c42890dbf473552d83343ef18ee0112", func := "scutage/scutagelaw15.CurrentErrors", spec := "currentErrors", unfollowed := true, recurses := true, apart := false, narrowed := true }
def CurrentErrorsUptoSaid : Prop := currentErrorsUptoRow.holds Try.pinned (OpenSpec.upto currentErrorsSpec)

/-- 'scutagelaw15.CurrentTells', WHERE WHAT IT READS IS OF BULK AT MOST 1048576: true; the input reads as it did. -/
def currentTellsUptoRow : OpenClaim := { program := "ytpigoegjoagbnaa", sum := "a4041fccb18c2cccf6a65a874605df0c4c42890dbf473552d83343ef18ee0112", func := "scutage/scutagelaw15.CurrentTells", spec := "currentTells", unfollowed := true, recurses := true, apart := false, narrowed := true }
def CurrentTellsUptoSaid : Prop := currentTellsUptoRow.holds Try.pinned (OpenSpec.upto currentTellsSpec)

/-- 'scutagelaw15.CurrentLaws', WHERE WHAT IT READS IS OF BULK AT MOST 1048576: true; the input reads as it did. -/
def currentLawsUptoRow : OpenClaim := { program := "ytpigoegjoagbnaa", sum := "a4041fccb18c2cccf6a65a874605df0c4c42890dbf473552d83343ef18ee0112", func := "scutage/scutagelaw15.CurrentLaws", spec := "currentLaws", unfollowed := true, recurses := true, apart := false, narrowed := true }
def CurrentLawsUptoSaid : Prop := currentLawsUptoRow.holds Try.pinned (OpenSpec.upto currentLawsSpec)

end Rows
end Go.Proofs.Ytpigoegjoagbnaa
