/-
  No cell of these rows narrows 'for every input' (looked for: loops, veiled, ifaces, maps, wideKeys, modest, calm, conditions, laid).
  DERIVED. THE GIVEN ROWS OF THIS SEAT. 12 by the template 'for every input the law returns true; each argument reads behind the call as it read before'; 0 by the template 'total and deterministic' (their statements: YtdcfojohgcmpcaaTotals.lean).
  GIVEN WITH THE SEED: the statements are not yours to turn. If you find one false, say at which input.
  Laid BY PROGRAM, IN A SANDBOX (cutbox-rows.mjs): the forced cells as the released guide's own fill.sh prints them over the translation 72b83eb28d6b407e… (all of the seat's roots in one cut). By AI agents, Wed Nov 11 2026. No macro, syntax, notation, axiom, sorry.
-/
import Derived.Test.YtdcfojohgcmpcaaChecked
import GoSem.Claim
import GoSem.ClaimJoined
import GoSem.ClaimMapViews
import Derived.JoinedTies
import Derived.KernelRfl
namespace Go.Proofs.Ytdcfojohgcmpcaa
/- THE CELL 'sum', in the pinned program and in every row, IS THE sha256 OF THE DUMP (.gsa) THAT YtdcfojohgcmpcaaProg.lean LOADS. Nothing in Lean hashes anything: it is a label: what it is worth is what the hold of that sum in a sandbox is worth. -/
noncomputable def Try.pinned : Pinned := { name := "ytdcfojohgcmpcaa", sum := "72b83eb28d6b407e282a031a3da4be5b4db57f67b0cf2295ba1b3f43df2cfc49", checked := Try.checked }
namespace Rows
def none {H : Type} : Left H := { results := [], args := [] }

/-- 'scutagelaw24.CrossAssets': WHATEVER THE INPUT: true; the input reads as it did. -/
def crossAssetsSpec : ChangeSpec := { name := "crossAssets", fn := fun _ => fun
  | [d1, d2] => { results := [.lit (.bool true)], args := [d1, d2] }
  | _ => none }
def crossAssetsRow : OpenClaim := { program := "ytdcfojohgcmpcaa", sum := "72b83eb28d6b407e282a031a3da4be5b4db57f67b0cf2295ba1b3f43df2cfc49", func := "scutage/scutagelaw24.CrossAssets", spec := "crossAssets", inPlace := ["internal/bytealg.abigen_runtime_cmpstring"], unfollowed := true, recurses := true, plainKeys := false, apart := false }
def CrossAssetsSaid : Prop := crossAssetsRow.holds Try.pinned (OpenSpec.ofChange crossAssetsSpec)

/-- ITS FALSE NEIGHBOUR: 'it returns false'. Refute it at one input. -/
def crossAssetsWrong : ChangeSpec := { name := "crossAssets", fn := fun _ => fun
  | [d1, d2] => { results := [.lit (.bool false)], args := [d1, d2] }
  | _ => none }
def CrossAssetsWrongFalsely : Prop := crossAssetsRow.holds Try.pinned (OpenSpec.ofChange crossAssetsWrong)

/-- 'scutagelaw25.FxErrors': WHATEVER THE INPUT: true; the input reads as it did. -/
def fxErrorsSpec : ChangeSpec := { name := "fxErrors", fn := fun _ => fun
  | [d] => { results := [.lit (.bool true)], args := [d] }
  | _ => none }
def fxErrorsRow : OpenClaim := { program := "ytdcfojohgcmpcaa", sum := "72b83eb28d6b407e282a031a3da4be5b4db57f67b0cf2295ba1b3f43df2cfc49", func := "scutage/scutagelaw25.FxErrors", spec := "fxErrors", unfollowed := true, recurses := true, plainKeys := false, apart := false }
def FxErrorsSaid : Prop := fxErrorsRow.holds Try.pinned (OpenSpec.ofChange fxErrorsSpec)

/-- ITS FALSE NEIGHBOUR: 'it returns false'. Refute it at one input. -/
def fxErrorsWrong : ChangeSpec := { name := "fxErrors", fn := fun _ => fun
  | [d] => { results := [.lit (.bool false)], args := [d] }
  | _ => none }
def FxErrorsWrongFalsely : Prop := fxErrorsRow.holds Try.pinned (OpenSpec.ofChange fxErrorsWrong)

/-- 'scutagelaw25.FxTells': WHATEVER THE INPUT: true; the input reads as it did. -/
def fxTellsSpec : ChangeSpec := { name := "fxTells", fn := fun _ => fun
  | [d1, d2, d3, d4, d5] => { results := [.lit (.bool true)], args := [d1, d2, d3, d4, d5] }
  | _ => none }
def fxTellsRow : OpenClaim := { program := "ytdcfojohgcmpcaa", sum := "72b83eb28d6b407e282a031a3da4be5b4db57f67b0cf2295ba1b3f43df2cfc49", func := "scutage/scutagelaw25.FxTells", spec := "fxTells", unfollowed := true, recurses := true, plainKeys := false, apart := false }
def FxTellsSaid : Prop := fxTellsRow.holds Try.pinned (OpenSpec.ofChange fxTellsSpec)

/-- ITS FALSE NEIGHBOUR: 'it returns false'. Refute it at one input. -/
def fxTellsWrong : ChangeSpec := { name := "fxTells", fn := fun _ => fun
  | [d1, d2, d3, d4, d5] => { results := [.lit (.bool false)], args := [d1, d2, d3, d4, d5] }
  | _ => none }
def FxTellsWrongFalsely : Prop := fxTellsRow.holds Try.pinned (OpenSpec.ofChange fxTellsWrong)

/-- 'scutagelaw25.FxAdds': WHATEVER THE INPUT: true; the input reads as it did. -/
def fxAddsSpec : ChangeSpec := { name := "fxAdds", fn := fun _ => fun
  | [d1, d2, d3] => { results := [.lit (.bool true)], args := [d1, d2, d3] }
  | _ => none }
def fxAddsRow : OpenClaim := { program := "ytdcfojohgcmpcaa", sum := "72b83eb28d6b407e282a031a3da4be5b4db57f67b0cf2295ba1b3f43df2cfc49", func := "scutage/scutagelaw25.FxAdds", spec := "fxAdds", unfollowed := true, recurses := true, plainKeys := false, apart := false }
def FxAddsSaid : Prop := fxAddsRow.holds Try.pinned (OpenSpec.ofChange fxAddsSpec)

/-- ITS FALSE NEIGHBOUR: 'it returns false'. Refute it at one input. -/
def fxAddsWrong : ChangeSpec := { name := "fxAdds", fn := fun _ => fun
  | [d1, d2, d3] => { results := [.lit (.bool false)], args := [d1, d2, d3] }
  | _ => none }
def FxAddsWrongFalsely : Prop := fxAddsRow.holds Try.pinned (OpenSpec.ofChange fxAddsWrong)

/-- 'scutagelaw24.CrossOrder': WHATEVER THE INPUT: true; the input reads as it did. -/
def crossOrderSpec : ChangeSpec := { name := "crossOrder", fn := fun _ => fun
  | [d] => { results := [.lit (.bool true)], args := [d] }
  | _ => none }
def crossOrderRow : OpenClaim := { program := "ytdcfojohgcmpcaa", sum := "72b83eb28d6b407e282a031a3da4be5b4db57f67b0cf2295ba1b3f43df2cfc49", func := "scutage/scutagelaw24.CrossOrder", spec := "crossOrder", inPlace := ["internal/bytealg.abigen_runtime_cmpstring"], unfollowed := true, recurses := true, plainKeys := false, apart := false }
def CrossOrderSaid : Prop := crossOrderRow.holds Try.pinned (OpenSpec.ofChange crossOrderSpec)

/-- ITS FALSE NEIGHBOUR: 'it returns false'. Refute it at one input. -/
def crossOrderWrong : ChangeSpec := { name := "crossOrder", fn := fun _ => fun
  | [d] => { results := [.lit (.bool false)], args := [d] }
  | _ => none }
def CrossOrderWrongFalsely : Prop := crossOrderRow.holds Try.pinned (OpenSpec.ofChange crossOrderWrong)

/-- 'scutagelaw24.CrossPlays': WHATEVER THE INPUT: true; the input reads as it did. -/
def crossPlaysSpec : ChangeSpec := { name := "crossPlays", fn := fun _ => fun
  | [d1, d2, d3] => { results := [.lit (.bool true)], args := [d1, d2, d3] }
  | _ => none }
def crossPlaysRow : OpenClaim := { program := "ytdcfojohgcmpcaa", sum := "72b83eb28d6b407e282a031a3da4be5b4db57f67b0cf2295ba1b3f43df2cfc49", func := "scutage/scutagelaw24.CrossPlays", spec := "crossPlays", inPlace := ["internal/bytealg.abigen_runtime_cmpstring"], unfollowed := true, recurses := true, plainKeys := false, apart := false }
def CrossPlaysSaid : Prop := crossPlaysRow.holds Try.pinned (OpenSpec.ofChange crossPlaysSpec)

/-- ITS FALSE NEIGHBOUR: 'it returns false'. Refute it at one input. -/
def crossPlaysWrong : ChangeSpec := { name := "crossPlays", fn := fun _ => fun
  | [d1, d2, d3] => { results := [.lit (.bool false)], args := [d1, d2, d3] }
  | _ => none }
def CrossPlaysWrongFalsely : Prop := crossPlaysRow.holds Try.pinned (OpenSpec.ofChange crossPlaysWrong)

/-- 'scutagelaw10.BucketOwn': WHATEVER THE INPUT: true; the input reads as it did. -/
def bucketOwnSpec : ChangeSpec := { name := "bucketOwn", fn := fun _ => fun
  | [d] => { results := [.lit (.bool true)], args := [d] }
  | _ => none }
def bucketOwnRow : OpenClaim := { program := "ytdcfojohgcmpcaa", sum := "72b83eb28d6b407e282a031a3da4be5b4db57f67b0cf2295ba1b3f43df2cfc49", func := "scutage/scutagelaw10.BucketOwn", spec := "bucketOwn", unfollowed := true, recurses := true, plainKeys := false, apart := false }
def BucketOwnSaid : Prop := bucketOwnRow.holds Try.pinned (OpenSpec.ofChange bucketOwnSpec)

/-- ITS FALSE NEIGHBOUR: 'it returns false'. Refute it at one input. -/
def bucketOwnWrong : ChangeSpec := { name := "bucketOwn", fn := fun _ => fun
  | [d] => { results := [.lit (.bool false)], args := [d] }
  | _ => none }
def BucketOwnWrongFalsely : Prop := bucketOwnRow.holds Try.pinned (OpenSpec.ofChange bucketOwnWrong)

/-- 'scutagelaw10.BucketOver': WHATEVER THE INPUT: true; the input reads as it did. -/
def bucketOverSpec : ChangeSpec := { name := "bucketOver", fn := fun _ => fun
  | [d] => { results := [.lit (.bool true)], args := [d] }
  | _ => none }
def bucketOverRow : OpenClaim := { program := "ytdcfojohgcmpcaa", sum := "72b83eb28d6b407e282a031a3da4be5b4db57f67b0cf2295ba1b3f43df2cfc49", func := "scutage/scutagelaw10.BucketOver", spec := "bucketOver", unfollowed := true, recurses := true, plainKeys := false, apart := false }
def BucketOverSaid : Prop := bucketOverRow.holds Try.pinned (OpenSpec.ofChange bucketOverSpec)

/-- ITS FALSE NEIGHBOUR: 'it returns false'. Refute it at one input. -/
def bucketOverWrong : ChangeSpec := { name := "bucketOver", fn := fun _ => fun
  | [d] => { results := [.lit (.bool false)], args := [d] }
  | _ => none }
def BucketOverWrongFalsely : Prop := bucketOverRow.holds Try.pinned (OpenSpec.ofChange bucketOverWrong)

/-- 'scutagelaw10.BucketPlays': WHATEVER THE INPUT: true; the input reads as it did. -/
def bucketPlaysSpec : ChangeSpec := { name := "bucketPlays", fn := fun _ => fun
  | [d] => { results := [.lit (.bool true)], args := [d] }
  | _ => none }
def bucketPlaysRow : OpenClaim := { program := "ytdcfojohgcmpcaa", sum := "72b83eb28d6b407e282a031a3da4be5b4db57f67b0cf2295ba1b3f43df2cfc49", func := "scutage/scutagelaw10.BucketPlays", spec := "bucketPlays", unfollowed := true, recurses := true, plainKeys := false, apart := false }
def BucketPlaysSaid : Prop := bucketPlaysRow.holds Try.pinned (OpenSpec.ofChange bucketPlaysSpec)

/-- ITS FALSE NEIGHBOUR: 'it returns false'. Refute it at one input. -/
def bucketPlaysWrong : ChangeSpec := { name := "bucketPlays", fn := fun _ => fun
  | [d] => { results := [.lit (.bool false)], args := [d] }
  | _ => none }
def BucketPlaysWrongFalsely : Prop := bucketPlaysRow.holds Try.pinned (OpenSpec.ofChange bucketPlaysWrong)

/-- 'scutagelaw10.BucketSums': WHATEVER THE INPUT: true; the input reads as it did. -/
def bucketSumsSpec : ChangeSpec := { name := "bucketSums", fn := fun _ => fun
  | [d1, d2, d3, d4, d5, d6] => { results := [.lit (.bool true)], args := [d1, d2, d3, d4, d5, d6] }
  | _ => none }
def bucketSumsRow : OpenClaim := { program := "ytdcfojohgcmpcaa", sum := "72b83eb28d6b407e282a031a3da4be5b4db57f67b0cf2295ba1b3f43df2cfc49", func := "scutage/scutagelaw10.BucketSums", spec := "bucketSums", unfollowed := true, recurses := true, plainKeys := false, apart := false }
def BucketSumsSaid : Prop := bucketSumsRow.holds Try.pinned (OpenSpec.ofChange bucketSumsSpec)

/-- ITS FALSE NEIGHBOUR: 'it returns false'. Refute it at one input. -/
def bucketSumsWrong : ChangeSpec := { name := "bucketSums", fn := fun _ => fun
  | [d1, d2, d3, d4, d5, d6] => { results := [.lit (.bool false)], args := [d1, d2, d3, d4, d5, d6] }
  | _ => none }
def BucketSumsWrongFalsely : Prop := bucketSumsRow.holds Try.pinned (OpenSpec.ofChange bucketSumsWrong)

/-- 'scutagelaw10.BucketLimits': WHATEVER THE INPUT: true; the input reads as it did. -/
def bucketLimitsSpec : ChangeSpec := { name := "bucketLimits", fn := fun _ => fun
  | [d] => { results := [.lit (.bool true)], args := [d] }
  | _ => none }
def bucketLimitsRow : OpenClaim := { program := "ytdcfojohgcmpcaa", sum := "72b83eb28d6b407e282a031a3da4be5b4db57f67b0cf2295ba1b3f43df2cfc49", func := "scutage/scutagelaw10.BucketLimits", spec := "bucketLimits", unfollowed := true, recurses := true, plainKeys := false, apart := false }
def BucketLimitsSaid : Prop := bucketLimitsRow.holds Try.pinned (OpenSpec.ofChange bucketLimitsSpec)

/-- ITS FALSE NEIGHBOUR: 'it returns false'. Refute it at one input. -/
def bucketLimitsWrong : ChangeSpec := { name := "bucketLimits", fn := fun _ => fun
  | [d] => { results := [.lit (.bool false)], args := [d] }
  | _ => none }
def BucketLimitsWrongFalsely : Prop := bucketLimitsRow.holds Try.pinned (OpenSpec.ofChange bucketLimitsWrong)

/-- 'scutagelaw07.StorePlays': WHATEVER THE INPUT: true; the input reads as it did. -/
def storePlaysSpec : ChangeSpec := { name := "storePlays", fn := fun _ => fun
  | [d] => { results := [.lit (.bool true)], args := [d] }
  | _ => none }
def storePlaysRow : OpenClaim := { program := "ytdcfojohgcmpcaa", sum := "72b83eb28d6b407e282a031a3da4be5b4db57f67b0cf2295ba1b3f43df2cfc49", func := "scutage/scutagelaw07.StorePlays", spec := "storePlays", unfollowed := true, recurses := true, plainKeys := false, apart := false }
def StorePlaysSaid : Prop := storePlaysRow.holds Try.pinned (OpenSpec.ofChange storePlaysSpec)

/-- ITS FALSE NEIGHBOUR: 'it returns false'. Refute it at one input. -/
def storePlaysWrong : ChangeSpec := { name := "storePlays", fn := fun _ => fun
  | [d] => { results := [.lit (.bool false)], args := [d] }
  | _ => none }
def StorePlaysWrongFalsely : Prop := storePlaysRow.holds Try.pinned (OpenSpec.ofChange storePlaysWrong)

/- THE SECOND FORM. 'bulk': how many values and letters a reading holds, each counted each time it is reached (what is shared counts as often as it is met; a slice's spare places count too). A statement '..UptoSaid' is the law's where the arguments, and the package variables that the reading takes, are together of bulk at most 1048576: NARROWER than '..Said'. Prove '..Said' where nothing that the law and all that it calls make is longer than what came in: it says more and counts as full. Else prove '..UptoSaid'. A law counts once. -/
mutual
def uptoBulk {H : Type} : DataW H → Nat
  | .lit (.string bytes) => bytes.length + 1
  | .lit _ => 1
  | .nil => 1
  | .ptr d => uptoBulk d + 1
  | .slice elems spare => uptoBulkAll elems + uptoBulkAll spare + 1
  | .agg parts => uptoBulkAll parts + 1
  | .iface _ d => uptoBulk d + 1
  | .map entries => uptoBulkEntries entries + 1
  | .held _ => 1
def uptoBulkAll {H : Type} : List (DataW H) → Nat
  | [] => 0
  | d :: r => uptoBulk d + uptoBulkAll r
def uptoBulkEntries {H : Type} : List (Lit × DataW H) → Nat
  | [] => 0
  | x :: r => uptoBulkEntry x + uptoBulkEntries r
def uptoBulkEntry {H : Type} : Lit × DataW H → Nat
  | (.string bytes, d) => bytes.length + uptoBulk d + 1
  | (_, d) => uptoBulk d + 1
 end
def uptoSmall : (H : Type) → List (DataW H) → Bool := fun _ ds => decide (uptoBulkAll ds ≤ 1048576)
def OpenSpec.upto (s : _root_.Go.ChangeSpec) : _root_.Go.OpenSpec := { _root_.Go.OpenSpec.ofChange s with cond := some uptoSmall }

/-- 'scutagelaw24.CrossAssets', WHERE WHAT IT READS IS OF BULK AT MOST 1048576: true; the input reads as it did. -/
def crossAssetsUptoRow : OpenClaim := { program := "ytdcfojohgcmpcaa", sum := "72b83eb28d6b407e282a031a3da4be5b4db57f67b0cf2295ba1b3f43df2cfc49", func := "scutage/scutagelaw24.CrossAssets", spec := "crossAssets", inPlace := ["internal/bytealg.abigen_runtime_cmpstring"], unfollowed := true, recurses := true, plainKeys := false, apart := false, narrowed := true }
def CrossAssetsUptoSaid : Prop := crossAssetsUptoRow.holds Try.pinned (OpenSpec.upto crossAssetsSpec)

/-- 'scutagelaw25.FxErrors', WHERE WHAT IT READS IS OF BULK AT MOST 1048576: true; the input reads as it did. -/
def fxErrorsUptoRow : OpenClaim := { program := "ytdcfojohgcmpcaa", sum := "72b83eb28d6b407e282a031a3da4be5b4db57f67b0cf2295ba1b3f43df2cfc49", func := "scutage/scutagelaw25.FxErrors", spec := "fxErrors", unfollowed := true, recurses := true, plainKeys := false, apart := false, narrowed := true }
def FxErrorsUptoSaid : Prop := fxErrorsUptoRow.holds Try.pinned (OpenSpec.upto fxErrorsSpec)

/-- 'scutagelaw25.FxTells', WHERE WHAT IT READS IS OF BULK AT MOST 1048576: true; the input reads as it did. -/
def fxTellsUptoRow : OpenClaim := { program := "ytdcfojohgcmpcaa", sum := "72b83eb28d6b407e282a031a3da4be5b4db57f67b0cf2295ba1b3f43df2cfc49", func := "scutage/scutagelaw25.FxTells", spec := "fxTells", unfollowed := true, recurses := true, plainKeys := false, apart := false, narrowed := true }
def FxTellsUptoSaid : Prop := fxTellsUptoRow.holds Try.pinned (OpenSpec.upto fxTellsSpec)

/-- 'scutagelaw25.FxAdds', WHERE WHAT IT READS IS OF BULK AT MOST 1048576: true; the input reads as it did. -/
def fxAddsUptoRow : OpenClaim := { program := "ytdcfojohgcmpcaa", sum := "72b83eb28d6b407e282a031a3da4be5b4db57f67b0cf2295ba1b3f43df2cfc49", func := "scutage/scutagelaw25.FxAdds", spec := "fxAdds", unfollowed := true, recurses := true, plainKeys := false, apart := false, narrowed := true }
def FxAddsUptoSaid : Prop := fxAddsUptoRow.holds Try.pinned (OpenSpec.upto fxAddsSpec)

/-- 'scutagelaw24.CrossOrder', WHERE WHAT IT READS IS OF BULK AT MOST 1048576: true; the input reads as it did. -/
def crossOrderUptoRow : OpenClaim := { program := "ytdcfojohgcmpcaa", sum := "72b83eb28d6b407e282a031a3da4be5b4db57f67b0cf2295ba1b3f43df2cfc49", func := "scutage/scutagelaw24.CrossOrder", spec := "crossOrder", inPlace := ["internal/bytealg.abigen_runtime_cmpstring"], unfollowed := true, recurses := true, plainKeys := false, apart := false, narrowed := true }
def CrossOrderUptoSaid : Prop := crossOrderUptoRow.holds Try.pinned (OpenSpec.upto crossOrderSpec)

/-- 'scutagelaw24.CrossPlays', WHERE WHAT IT READS IS OF BULK AT MOST 1048576: true; the input reads as it did. -/
def crossPlaysUptoRow : OpenClaim := { program := "ytdcfojohgcmpcaa", sum := "72b83eb28d6b407e282a031a3da4be5b4db57f67b0cf2295ba1b3f43df2cfc49", func := "scutage/scutagelaw24.CrossPlays", spec := "crossPlays", inPlace := ["internal/bytealg.abigen_runtime_cmpstring"], unfollowed := true, recurses := true, plainKeys := false, apart := false, narrowed := true }
def CrossPlaysUptoSaid : Prop := crossPlaysUptoRow.holds Try.pinned (OpenSpec.upto crossPlaysSpec)

/-- 'scutagelaw10.BucketOwn', WHERE WHAT IT READS IS OF BULK AT MOST 1048576: true; the input reads as it did. -/
def bucketOwnUptoRow : OpenClaim := { program := "ytdcfojohgcmpcaa", sum := "72b83eb28d6b407e282a031a3da4be5b4db57f67b0cf2295ba1b3f43df2cfc49", func := "scutage/scutagelaw10.BucketOwn", spec := "bucketOwn", unfollowed := true, recurses := true, plainKeys := false, apart := false, narrowed := true }
def BucketOwnUptoSaid : Prop := bucketOwnUptoRow.holds Try.pinned (OpenSpec.upto bucketOwnSpec)

/-- 'scutagelaw10.BucketOver', WHERE WHAT IT READS IS OF BULK AT MOST 1048576: true; the input reads as it did. -/
def bucketOverUptoRow : OpenClaim := { program := "ytdcfojohgcmpcaa", sum := "72b83eb28d6b407e282a031a3da4be5b4db57f67b0cf2295ba1b3f43df2cfc49", func := "scutage/scutagelaw10.BucketOver", spec := "bucketOver", unfollowed := true, recurses := true, plainKeys := false, apart := false, narrowed := true }
def BucketOverUptoSaid : Prop := bucketOverUptoRow.holds Try.pinned (OpenSpec.upto bucketOverSpec)

/-- 'scutagelaw10.BucketPlays', WHERE WHAT IT READS IS OF BULK AT MOST 1048576: true; the input reads as it did. -/
def bucketPlaysUptoRow : OpenClaim := { program := "ytdcfojohgcmpcaa", sum := "72b83eb28d6b407e282a031a3da4be5b4db57f67b0cf2295ba1b3f43df2cfc49", func := "scutage/scutagelaw10.BucketPlays", spec := "bucketPlays", unfollowed := true, recurses := true, plainKeys := false, apart := false, narrowed := true }
def BucketPlaysUptoSaid : Prop := bucketPlaysUptoRow.holds Try.pinned (OpenSpec.upto bucketPlaysSpec)

/-- 'scutagelaw10.BucketSums', WHERE WHAT IT READS IS OF BULK AT MOST 1048576: true; the input reads as it did. -/
def bucketSumsUptoRow : OpenClaim := { program := "ytdcfojohgcmpcaa", sum := "72b83eb28d6b407e282a031a3da4be5b4db57f67b0cf2295ba1b3f43df2cfc49", func := "scutage/scutagelaw10.BucketSums", spec := "bucketSums", unfollowed := true, recurses := true, plainKeys := false, apart := false, narrowed := true }
def BucketSumsUptoSaid : Prop := bucketSumsUptoRow.holds Try.pinned (OpenSpec.upto bucketSumsSpec)

/-- 'scutagelaw10.BucketLimits', WHERE WHAT IT READS IS OF BULK AT MOST 1048576: true; the input reads as it did. -/
def bucketLimitsUptoRow : OpenClaim := { program := "ytdcfojohgcmpcaa", sum := "72b83eb28d6b407e282a031a3da4be5b4db57f67b0cf2295ba1b3f43df2cfc49", func := "scutage/scutagelaw10.BucketLimits", spec := "bucketLimits", unfollowed := true, recurses := true, plainKeys := false, apart := false, narrowed := true }
def BucketLimitsUptoSaid : Prop := bucketLimitsUptoRow.holds Try.pinned (OpenSpec.upto bucketLimitsSpec)

/-- 'scutagelaw07.StorePlays', WHERE WHAT IT READS IS OF BULK AT MOST 1048576: true; the input reads as it did. -/
def storePlaysUptoRow : OpenClaim := { program := "ytdcfojohgcmpcaa", sum := "72b83eb28d6b407e282a031a3da4be5b4db57f67b0cf2295ba1b3f43df2cfc49", func := "scutage/scutagelaw07.StorePlays", spec := "storePlays", unfollowed := true, recurses := true, plainKeys := false, apart := false, narrowed := true }
def StorePlaysUptoSaid : Prop := storePlaysUptoRow.holds Try.pinned (OpenSpec.upto storePlaysSpec)

end Rows
end Go.Proofs.Ytdcfojohgcmpcaa
