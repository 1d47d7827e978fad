/-
  No cell of these rows narrows 'for every input' (looked for: loops, veiled, ifaces, maps, wideKeys, modest, calm, conditions, laid).
  DERIVED. THE GIVEN ROWS OF THIS SEAT. 12 by the template 'for every input the law returns true; each argument reads behind the call as it read before'; 0 by the template 'total and deterministic' (their statements: YthcapomobidnbaaTotals.lean).
  GIVEN WITH THE SEED: the statements are not yours to turn. If you find one false, say at which input.
  Laid BY PROGRAM, IN A SANDBOX (cutbox-rows.mjs): the forced cells as the released guide's own fill.sh prints them over the translation 83c9cb87c9ddf148… (all of the seat's roots in one cut). By AI agents, Wed Nov 11 2026. No macro, syntax, notation, axiom, sorry.
-/
import Derived.Test.YthcapomobidnbaaChecked
import GoSem.Claim
import GoSem.ClaimJoined
import GoSem.ClaimMapViews
import Derived.JoinedTies
import Derived.KernelRfl
namespace Go.Proofs.Ythcapomobidnbaa
/- THE CELL 'sum', in the pinned program and in every row, IS THE sha256 OF THE DUMP (.gsa) THAT YthcapomobidnbaaProg.lean LOADS. Nothing in Lean hashes anything: it is a label: what it is worth is what the hold of that sum in a sandbox is worth. -/
noncomputable def Try.pinned : Pinned := { name := "ythcapomobidnbaa", sum := "83c9cb87c9ddf148a4e51f96faccb80ab7c32ebb6ba868eba6fb77da92ce67f6", checked := Try.checked }
namespace Rows
def none {H : Type} : Left H := { results := [], args := [] }

/-- 'scutagelaw11.RollChains': WHATEVER THE INPUT: true; the input reads as it did. -/
def rollChainsSpec : ChangeSpec := { name := "rollChains", fn := fun _ => fun
  | [d1, d2, d3] => { results := [.lit (.bool true)], args := [d1, d2, d3] }
  | _ => none }
def rollChainsRow : OpenClaim := { program := "ythcapomobidnbaa", sum := "83c9cb87c9ddf148a4e51f96faccb80ab7c32ebb6ba868eba6fb77da92ce67f6", func := "scutage/scutagelaw11.RollChains", spec := "rollChains", unfollowed := true, recurses := true, apart := false }
def RollChainsSaid : Prop := rollChainsRow.holds Try.pinned (OpenSpec.ofChange rollChainsSpec)

/-- ITS FALSE NEIGHBOUR: 'it returns false'. Refute it at one input. -/
def rollChainsWrong : ChangeSpec := { name := "rollChains", fn := fun _ => fun
  | [d1, d2, d3] => { results := [.lit (.bool false)], args := [d1, d2, d3] }
  | _ => none }
def RollChainsWrongFalsely : Prop := rollChainsRow.holds Try.pinned (OpenSpec.ofChange rollChainsWrong)

/-- 'scutagelaw11.RollClasses': WHATEVER THE INPUT: true; the input reads as it did. -/
def rollClassesSpec : ChangeSpec := { name := "rollClasses", fn := fun _ => fun
  | [d] => { results := [.lit (.bool true)], args := [d] }
  | _ => none }
def rollClassesRow : OpenClaim := { program := "ythcapomobidnbaa", sum := "83c9cb87c9ddf148a4e51f96faccb80ab7c32ebb6ba868eba6fb77da92ce67f6", func := "scutage/scutagelaw11.RollClasses", spec := "rollClasses", unfollowed := true, recurses := true, apart := false }
def RollClassesSaid : Prop := rollClassesRow.holds Try.pinned (OpenSpec.ofChange rollClassesSpec)

/-- ITS FALSE NEIGHBOUR: 'it returns false'. Refute it at one input. -/
def rollClassesWrong : ChangeSpec := { name := "rollClasses", fn := fun _ => fun
  | [d] => { results := [.lit (.bool false)], args := [d] }
  | _ => none }
def RollClassesWrongFalsely : Prop := rollClassesRow.holds Try.pinned (OpenSpec.ofChange rollClassesWrong)

/-- 'scutagelaw11.RollTells': WHATEVER THE INPUT: true; the input reads as it did. -/
def rollTellsSpec : ChangeSpec := { name := "rollTells", fn := fun _ => fun
  | [d1, d2] => { results := [.lit (.bool true)], args := [d1, d2] }
  | _ => none }
def rollTellsRow : OpenClaim := { program := "ythcapomobidnbaa", sum := "83c9cb87c9ddf148a4e51f96faccb80ab7c32ebb6ba868eba6fb77da92ce67f6", func := "scutage/scutagelaw11.RollTells", spec := "rollTells", unfollowed := true, recurses := true, apart := false }
def RollTellsSaid : Prop := rollTellsRow.holds Try.pinned (OpenSpec.ofChange rollTellsSpec)

/-- ITS FALSE NEIGHBOUR: 'it returns false'. Refute it at one input. -/
def rollTellsWrong : ChangeSpec := { name := "rollTells", fn := fun _ => fun
  | [d1, d2] => { results := [.lit (.bool false)], args := [d1, d2] }
  | _ => none }
def RollTellsWrongFalsely : Prop := rollTellsRow.holds Try.pinned (OpenSpec.ofChange rollTellsWrong)

/-- 'scutagelaw11.RollSums': WHATEVER THE INPUT: true; the input reads as it did. -/
def rollSumsSpec : ChangeSpec := { name := "rollSums", fn := fun _ => fun
  | [d1, d2] => { results := [.lit (.bool true)], args := [d1, d2] }
  | _ => none }
def rollSumsRow : OpenClaim := { program := "ythcapomobidnbaa", sum := "83c9cb87c9ddf148a4e51f96faccb80ab7c32ebb6ba868eba6fb77da92ce67f6", func := "scutage/scutagelaw11.RollSums", spec := "rollSums", unfollowed := true, recurses := true, apart := false }
def RollSumsSaid : Prop := rollSumsRow.holds Try.pinned (OpenSpec.ofChange rollSumsSpec)

/-- ITS FALSE NEIGHBOUR: 'it returns false'. Refute it at one input. -/
def rollSumsWrong : ChangeSpec := { name := "rollSums", fn := fun _ => fun
  | [d1, d2] => { results := [.lit (.bool false)], args := [d1, d2] }
  | _ => none }
def RollSumsWrongFalsely : Prop := rollSumsRow.holds Try.pinned (OpenSpec.ofChange rollSumsWrong)

/-- 'scutagelaw17.RemeasureErrors': WHATEVER THE INPUT: true; the input reads as it did. -/
def remeasureErrorsSpec : ChangeSpec := { name := "remeasureErrors", fn := fun _ => fun
  | [d] => { results := [.lit (.bool true)], args := [d] }
  | _ => none }
def remeasureErrorsRow : OpenClaim := { program := "ythcapomobidnbaa", sum := "83c9cb87c9ddf148a4e51f96faccb80ab7c32ebb6ba868eba6fb77da92ce67f6", func := "scutage/scutagelaw17.RemeasureErrors", spec := "remeasureErrors", unfollowed := true, recurses := true, apart := false }
def RemeasureErrorsSaid : Prop := remeasureErrorsRow.holds Try.pinned (OpenSpec.ofChange remeasureErrorsSpec)

/-- ITS FALSE NEIGHBOUR: 'it returns false'. Refute it at one input. -/
def remeasureErrorsWrong : ChangeSpec := { name := "remeasureErrors", fn := fun _ => fun
  | [d] => { results := [.lit (.bool false)], args := [d] }
  | _ => none }
def RemeasureErrorsWrongFalsely : Prop := remeasureErrorsRow.holds Try.pinned (OpenSpec.ofChange remeasureErrorsWrong)

/-- 'scutagelaw17.RemeasureBack': WHATEVER THE INPUT: true; the input reads as it did. -/
def remeasureBackSpec : ChangeSpec := { name := "remeasureBack", fn := fun _ => fun
  | [d1, d2, d3, d4] => { results := [.lit (.bool true)], args := [d1, d2, d3, d4] }
  | _ => none }
def remeasureBackRow : OpenClaim := { program := "ythcapomobidnbaa", sum := "83c9cb87c9ddf148a4e51f96faccb80ab7c32ebb6ba868eba6fb77da92ce67f6", func := "scutage/scutagelaw17.RemeasureBack", spec := "remeasureBack", unfollowed := true, recurses := true, apart := false }
def RemeasureBackSaid : Prop := remeasureBackRow.holds Try.pinned (OpenSpec.ofChange remeasureBackSpec)

/-- ITS FALSE NEIGHBOUR: 'it returns false'. Refute it at one input. -/
def remeasureBackWrong : ChangeSpec := { name := "remeasureBack", fn := fun _ => fun
  | [d1, d2, d3, d4] => { results := [.lit (.bool false)], args := [d1, d2, d3, d4] }
  | _ => none }
def RemeasureBackWrongFalsely : Prop := remeasureBackRow.holds Try.pinned (OpenSpec.ofChange remeasureBackWrong)

/-- 'scutagelaw17.RemeasureTells': WHATEVER THE INPUT: true; the input reads as it did. -/
def remeasureTellsSpec : ChangeSpec := { name := "remeasureTells", fn := fun _ => fun
  | [d1, d2, d3, d4, d5, d6] => { results := [.lit (.bool true)], args := [d1, d2, d3, d4, d5, d6] }
  | _ => none }
def remeasureTellsRow : OpenClaim := { program := "ythcapomobidnbaa", sum := "83c9cb87c9ddf148a4e51f96faccb80ab7c32ebb6ba868eba6fb77da92ce67f6", func := "scutage/scutagelaw17.RemeasureTells", spec := "remeasureTells", unfollowed := true, recurses := true, apart := false }
def RemeasureTellsSaid : Prop := remeasureTellsRow.holds Try.pinned (OpenSpec.ofChange remeasureTellsSpec)

/-- ITS FALSE NEIGHBOUR: 'it returns false'. Refute it at one input. -/
def remeasureTellsWrong : ChangeSpec := { name := "remeasureTells", fn := fun _ => fun
  | [d1, d2, d3, d4, d5, d6] => { results := [.lit (.bool false)], args := [d1, d2, d3, d4, d5, d6] }
  | _ => none }
def RemeasureTellsWrongFalsely : Prop := remeasureTellsRow.holds Try.pinned (OpenSpec.ofChange remeasureTellsWrong)

/-- 'scutagelaw17.RemeasureParts': WHATEVER THE INPUT: true; the input reads as it did. -/
def remeasurePartsSpec : ChangeSpec := { name := "remeasureParts", fn := fun _ => fun
  | [d1, d2, d3] => { results := [.lit (.bool true)], args := [d1, d2, d3] }
  | _ => none }
def remeasurePartsRow : OpenClaim := { program := "ythcapomobidnbaa", sum := "83c9cb87c9ddf148a4e51f96faccb80ab7c32ebb6ba868eba6fb77da92ce67f6", func := "scutage/scutagelaw17.RemeasureParts", spec := "remeasureParts", unfollowed := true, recurses := true, apart := false }
def RemeasurePartsSaid : Prop := remeasurePartsRow.holds Try.pinned (OpenSpec.ofChange remeasurePartsSpec)

/-- ITS FALSE NEIGHBOUR: 'it returns false'. Refute it at one input. -/
def remeasurePartsWrong : ChangeSpec := { name := "remeasureParts", fn := fun _ => fun
  | [d1, d2, d3] => { results := [.lit (.bool false)], args := [d1, d2, d3] }
  | _ => none }
def RemeasurePartsWrongFalsely : Prop := remeasurePartsRow.holds Try.pinned (OpenSpec.ofChange remeasurePartsWrong)

/-- 'scutagelaw17.RemeasureTotal': WHATEVER THE INPUT: true; the input reads as it did. -/
def remeasureTotalSpec : ChangeSpec := { name := "remeasureTotal", fn := fun _ => fun
  | [d1, d2, d3, d4] => { results := [.lit (.bool true)], args := [d1, d2, d3, d4] }
  | _ => none }
def remeasureTotalRow : OpenClaim := { program := "ythcapomobidnbaa", sum := "83c9cb87c9ddf148a4e51f96faccb80ab7c32ebb6ba868eba6fb77da92ce67f6", func := "scutage/scutagelaw17.RemeasureTotal", spec := "remeasureTotal", unfollowed := true, recurses := true, apart := false }
def RemeasureTotalSaid : Prop := remeasureTotalRow.holds Try.pinned (OpenSpec.ofChange remeasureTotalSpec)

/-- ITS FALSE NEIGHBOUR: 'it returns false'. Refute it at one input. -/
def remeasureTotalWrong : ChangeSpec := { name := "remeasureTotal", fn := fun _ => fun
  | [d1, d2, d3, d4] => { results := [.lit (.bool false)], args := [d1, d2, d3, d4] }
  | _ => none }
def RemeasureTotalWrongFalsely : Prop := remeasureTotalRow.holds Try.pinned (OpenSpec.ofChange remeasureTotalWrong)

/-- 'scutagelaw25.FxErrors': WHATEVER THE INPUT: true; the input reads as it did. -/
def fxErrorsSpec : ChangeSpec := { name := "fxErrors", fn := fun _ => fun
  | [d] => { results := [.lit (.bool true)], args := [d] }
  | _ => none }
def fxErrorsRow : OpenClaim := { program := "ythcapomobidnbaa", sum := "83c9cb87c9ddf148a4e51f96faccb80ab7c32ebb6ba868eba6fb77da92ce67f6", func := "scutage/scutagelaw25.FxErrors", spec := "fxErrors", unfollowed := true, recurses := true, apart := false }
def FxErrorsSaid : Prop := fxErrorsRow.holds Try.pinned (OpenSpec.ofChange fxErrorsSpec)

/-- ITS FALSE NEIGHBOUR: 'it returns false'. Refute it at one input. -/
def fxErrorsWrong : ChangeSpec := { name := "fxErrors", fn := fun _ => fun
  | [d] => { results := [.lit (.bool false)], args := [d] }
  | _ => none }
def FxErrorsWrongFalsely : Prop := fxErrorsRow.holds Try.pinned (OpenSpec.ofChange fxErrorsWrong)

/-- 'scutagelaw24.CrossAssets': WHATEVER THE INPUT: true; the input reads as it did. -/
def crossAssetsSpec : ChangeSpec := { name := "crossAssets", fn := fun _ => fun
  | [d1, d2] => { results := [.lit (.bool true)], args := [d1, d2] }
  | _ => none }
def crossAssetsRow : OpenClaim := { program := "ythcapomobidnbaa", sum := "83c9cb87c9ddf148a4e51f96faccb80ab7c32ebb6ba868eba6fb77da92ce67f6", func := "scutage/scutagelaw24.CrossAssets", spec := "crossAssets", inPlace := ["internal/bytealg.abigen_runtime_cmpstring"], unfollowed := true, recurses := true, apart := false }
def CrossAssetsSaid : Prop := crossAssetsRow.holds Try.pinned (OpenSpec.ofChange crossAssetsSpec)

/-- ITS FALSE NEIGHBOUR: 'it returns false'. Refute it at one input. -/
def crossAssetsWrong : ChangeSpec := { name := "crossAssets", fn := fun _ => fun
  | [d1, d2] => { results := [.lit (.bool false)], args := [d1, d2] }
  | _ => none }
def CrossAssetsWrongFalsely : Prop := crossAssetsRow.holds Try.pinned (OpenSpec.ofChange crossAssetsWrong)

/-- 'scutagelaw24.CrossSums': WHATEVER THE INPUT: true; the input reads as it did. -/
def crossSumsSpec : ChangeSpec := { name := "crossSums", fn := fun _ => fun
  | [d1, d2] => { results := [.lit (.bool true)], args := [d1, d2] }
  | _ => none }
def crossSumsRow : OpenClaim := { program := "ythcapomobidnbaa", sum := "83c9cb87c9ddf148a4e51f96faccb80ab7c32ebb6ba868eba6fb77da92ce67f6", func := "scutage/scutagelaw24.CrossSums", spec := "crossSums", inPlace := ["internal/bytealg.abigen_runtime_cmpstring"], unfollowed := true, recurses := true, apart := false }
def CrossSumsSaid : Prop := crossSumsRow.holds Try.pinned (OpenSpec.ofChange crossSumsSpec)

/-- ITS FALSE NEIGHBOUR: 'it returns false'. Refute it at one input. -/
def crossSumsWrong : ChangeSpec := { name := "crossSums", fn := fun _ => fun
  | [d1, d2] => { results := [.lit (.bool false)], args := [d1, d2] }
  | _ => none }
def CrossSumsWrongFalsely : Prop := crossSumsRow.holds Try.pinned (OpenSpec.ofChange crossSumsWrong)

/- THE SECOND FORM. 'bulk': how many values and letters a reading holds, each counted each time it is reached (what is shared counts as often as it is met; a slice's spare places count too). A statement '..UptoSaid' is the law's where the arguments, and the package variables that the reading takes, are together of bulk at most 1048576: NARROWER than '..Said'. Prove '..Said' where nothing that the law and all that it calls make is longer than what came in: it says more and counts as full. Else prove '..UptoSaid'. A law counts once. -/
mutual
def uptoBulk {H : Type} : DataW H → Nat
  | .lit (.string bytes) => bytes.length + 1
  | .lit _ => 1
  | .nil => 1
  | .ptr d => uptoBulk d + 1
  | .slice elems spare => uptoBulkAll elems + uptoBulkAll spare + 1
  | .agg parts => uptoBulkAll parts + 1
  | .iface _ d => uptoBulk d + 1
  | .map entries => uptoBulkEntries entries + 1
  | .held _ => 1
def uptoBulkAll {H : Type} : List (DataW H) → Nat
  | [] => 0
  | d :: r => uptoBulk d + uptoBulkAll r
def uptoBulkEntries {H : Type} : List (Lit × DataW H) → Nat
  | [] => 0
  | x :: r => uptoBulkEntry x + uptoBulkEntries r
def uptoBulkEntry {H : Type} : Lit × DataW H → Nat
  | (.string bytes, d) => bytes.length + uptoBulk d + 1
  | (_, d) => uptoBulk d + 1
 end
def uptoSmall : (H : Type) → List (DataW H) → Bool := fun _ ds => decide (uptoBulkAll ds ≤ 1048576)
def OpenSpec.upto (s : _root_.Go.ChangeSpec) : _root_.Go.OpenSpec := { _root_.Go.OpenSpec.ofChange s with cond := some uptoSmall }

/-- 'scutagelaw11.RollChains', WHERE WHAT IT READS IS OF BULK AT MOST 1048576: true; the input reads as it did. -/
def rollChainsUptoRow : OpenClaim := { program := "ythcapomobidnbaa", sum := "83c9cb87c9ddf148a4e51f96faccb80ab7c32ebb6ba868eba6fb77da92ce67f6", func := "scutage/scutagelaw11.RollChains", spec := "rollChains", unfollowed := true, recurses := true, apart := false, narrowed := true }
def RollChainsUptoSaid : Prop := rollChainsUptoRow.holds Try.pinned (OpenSpec.upto rollChainsSpec)

/-- 'scutagelaw11.RollClasses', WHERE WHAT IT READS IS OF BULK AT MOST 1048576: true; the input reads as it did. -/
def rollClassesUptoRow : OpenClaim := { program := "ythcapomobidnbaa", sum := "83c9cb87c9ddf148a4e51f96faccb80ab7c32ebb6ba868eba6fb77da92ce67f6", func := "scutage/scutagelaw11.RollClasses", spec := "rollClasses", unfollowed := true, recurses := true, apart := false, narrowed := true }
def RollClassesUptoSaid : Prop := rollClassesUptoRow.holds Try.pinned (OpenSpec.upto rollClassesSpec)

/-- 'scutagelaw11.RollTells', WHERE WHAT IT READS IS OF BULK AT MOST 1048576: true; the input reads as it did. -/
def rollTellsUptoRow : OpenClaim := { program := "ythcapomobidnbaa", sum := "83c9cb87c9ddf148a4e51f96faccb80ab7c32ebb6ba868eba6fb77da92ce67f6", func := "scutage/scutagelaw11.RollTells", spec := "rollTells", unfollowed := true, recurses := true, apart := false, narrowed := true }
def RollTellsUptoSaid : Prop := rollTellsUptoRow.holds Try.pinned (OpenSpec.upto rollTellsSpec)

/-- 'scutagelaw11.RollSums', WHERE WHAT IT READS IS OF BULK AT MOST 1048576: true; the input reads as it did. -/
def rollSumsUptoRow : OpenClaim := { program := "ythcapomobidnbaa", sum := "83c9cb87c9ddf148a4e51f96faccb80ab7c32ebb6ba868eba6fb77da92ce67f6", func := "scutage/scutagelaw11.RollSums", spec := "rollSums", unfollowed := true, recurses := true, apart := false, narrowed := true }
def RollSumsUptoSaid : Prop := rollSumsUptoRow.holds Try.pinned (OpenSpec.upto rollSumsSpec)

/-- 'scutagelaw17.RemeasureErrors', WHERE WHAT IT READS IS OF BULK AT MOST 1048576: true; the input reads as it did. -/
def remeasureErrorsUptoRow : OpenClaim := { program := "ythcapomobidnbaa", sum := "83c9cb87c9ddf148a4e51f96faccb80ab7c32ebb6ba868eba6fb77da92ce67f6", func := "scutage/scutagelaw17.RemeasureErrors", spec := "remeasureErrors", unfollowed := true, recurses := true, apart := false, narrowed := true }
def RemeasureErrorsUptoSaid : Prop := remeasureErrorsUptoRow.holds Try.pinned (OpenSpec.upto remeasureErrorsSpec)

/-- 'scutagelaw17.RemeasureBack', WHERE WHAT IT READS IS OF BULK AT MOST 1048576: true; the input reads as it did. -/
def remeasureBackUptoRow : OpenClaim := { program := "ythcapomobidnbaa", sum := "83c9cb87c9ddf148a4e51f96faccb80ab7c32ebb6ba868eba6fb77da92ce67f6", func := "scutage/scutagelaw17.RemeasureBack", spec := "remeasureBack", unfollowed := true, recurses := true, apart := false, narrowed := true }
def RemeasureBackUptoSaid : Prop := remeasureBackUptoRow.holds Try.pinned (OpenSpec.upto remeasureBackSpec)

/-- 'scutagelaw17.RemeasureTells', WHERE WHAT IT READS IS OF BULK AT MOST 1048576: true; the input reads as it did. -/
def remeasureTellsUptoRow : OpenClaim := { program := "ythcapomobidnbaa", sum := "83c9cb87c9ddf148a4e51f96faccb80ab7c32ebb6ba868eba6fb77da92ce67f6", func := "scutage/scutagelaw17.RemeasureTells", spec := "remeasureTells", unfollowed := true, recurses := true, apart := false, narrowed := true }
def RemeasureTellsUptoSaid : Prop := remeasureTellsUptoRow.holds Try.pinned (OpenSpec.upto remeasureTellsSpec)

/-- 'scutagelaw17.RemeasureParts', WHERE WHAT IT READS IS OF BULK AT MOST 1048576: true; the input reads as it did. -/
def remeasurePartsUptoRow : OpenClaim := { program := "ythcapomobidnbaa", sum := "83c9cb87c9ddf148a4e51f96faccb80ab7c32ebb6ba868eba6fb77da92ce67f6", func := "scutage/scutagelaw17.RemeasureParts", spec := "remeasureParts", unfollowed := true, recurses := true, apart := false, narrowed := true }
def RemeasurePartsUptoSaid : Prop := remeasurePartsUptoRow.holds Try.pinned (OpenSpec.upto remeasurePartsSpec)

/-- 'scutagelaw17.RemeasureTotal', WHERE WHAT IT READS IS OF BULK AT MOST 1048576: true; the input reads as it did. -/
def remeasureTotalUptoRow : OpenClaim := { program := "ythcapomobidnbaa", sum := "83c9cb87c9ddf148a4e51f96faccb80ab7c32ebb6ba868eba6fb77da92ce67f6", func := "scutage/scutagelaw17.RemeasureTotal", spec := "remeasureTotal", unfollowed := true, recurses := true, apart := false, narrowed := true }
def RemeasureTotalUptoSaid : Prop := remeasureTotalUptoRow.holds Try.pinned (OpenSpec.upto remeasureTotalSpec)

/-- 'scutagelaw25.FxErrors', WHERE WHAT IT READS IS OF BULK AT MOST 1048576: true; the input reads as it did. -/
def fxErrorsUptoRow : OpenClaim := { program := "ythcapomobidnbaa", sum := "83c9cb87c9ddf148a4e51f96faccb80ab7c32ebb6ba868eba6fb77da92ce67f6", func := "scutage/scutagelaw25.FxErrors", spec := "fxErrors", unfollowed := true, recurses := true, apart := false, narrowed := true }
def FxErrorsUptoSaid : Prop := fxErrorsUptoRow.holds Try.pinned (OpenSpec.upto fxErrorsSpec)

/-- 'scutagelaw24.CrossAssets', WHERE WHAT IT READS IS OF BULK AT MOST 1048576: true; the input reads as it did. -/
def crossAssetsUptoRow : OpenClaim := { program := "ythcapomobidnbaa", sum := "83c9cb87c9ddf148a4e51f96faccb80ab7c32ebb6ba868eba6fb77da92ce67f6", func := "scutage/scutagelaw24.CrossAssets", spec := "crossAssets", inPlace := ["internal/bytealg.abigen_runtime_cmpstring"], unfollowed := true, recurses := true, apart := false, narrowed := true }
def CrossAssetsUptoSaid : Prop := crossAssetsUptoRow.holds Try.pinned (OpenSpec.upto crossAssetsSpec)

/-- 'scutagelaw24.CrossSums', WHERE WHAT IT READS IS OF BULK AT MOST 1048576: true; the input reads as it did. -/
def crossSumsUptoRow : OpenClaim := { program := "ythcapomobidnbaa", sum := "83c9cb87c9ddf148a4e51f96faccb80ab7c32ebb6ba868eba6fb77da92ce67f6", func := "scutage/scutagelaw24.CrossSums", spec := "crossSums", inPlace := ["internal/bytealg.abigen_runtime_cmpstring"], unfollowed := true, recurses := true, apart := false, narrowed := true }
def CrossSumsUptoSaid : Prop := crossSumsUptoRow.holds Try.pinned (OpenSpec.upto crossSumsSpec)

end Rows
end Go.Proofs.Ythcapomobidnbaa
