/-
  No cell of these rows narrows 'for every input' (looked for: loops, veiled, ifaces, maps, wideKeys, modest, calm, conditions, laid).
  DERIVED. THE GIVEN ROWS OF THIS SEAT. 15 by the template 'for every input the law returns true; each argument reads behind the call as it read before'; 0 by the template 'total and deterministic' (their statements: YtflnlpbcmcfblaaTotals.lean).
  GIVEN WITH THE SEED: the statements are not yours to turn. If you find one false, say at which input.
  Laid BY PROGRAM, IN A SANDBOX (cutbox-rows.mjs): the forced cells as the released guide's own fill.sh prints them over the translation 80442e28467d9a0c… (all of the seat's roots in one cut). By AI agents, Wed Nov 11 2026. No macro, syntax, notation, axiom, sorry.
-/
import Derived.Test.YtflnlpbcmcfblaaChecked
import GoSem.Claim
import GoSem.ClaimJoined
import GoSem.ClaimMapViews
import Derived.JoinedTies
import Derived.KernelRfl
namespace Go.Proofs.Ytflnlpbcmcfblaa
/- THE CELL 'sum', in the pinned program and in every row, IS THE sha256 OF THE DUMP (.gsa) THAT YtflnlpbcmcfblaaProg.lean LOADS. Nothing in Lean hashes anything: it is a label: what it is worth is what the hold of that sum in a sandbox is worth. -/
noncomputable def Try.pinned : Pinned := { name := "ytflnlpbcmcfblaa", sum := "80442e28467d9a0cece7e8949ed7d7e2de031b713272d60d8c008d93f8f3866f", checked := Try.checked }
namespace Rows
def none {H : Type} : Left H := { results := [], args := [] }

/-- 'keystonelaw02.DiskLasts': WHATEVER THE INPUT: true; the input reads as it did. -/
def diskLastsSpec : ChangeSpec := { name := "diskLasts", fn := fun _ => fun
  | [d1, d2, d3] => { results := [.lit (.bool true)], args := [d1, d2, d3] }
  | _ => none }
def diskLastsRow : OpenClaim := { program := "ytflnlpbcmcfblaa", sum := "80442e28467d9a0cece7e8949ed7d7e2de031b713272d60d8c008d93f8f3866f", func := "keystone/keystonelaw02.DiskLasts", spec := "diskLasts", unfollowed := true, recurses := true, apart := false }
def DiskLastsSaid : Prop := diskLastsRow.holds Try.pinned (OpenSpec.ofChange diskLastsSpec)

/-- ITS FALSE NEIGHBOUR: 'it returns false'. Refute it at one input. -/
def diskLastsWrong : ChangeSpec := { name := "diskLasts", fn := fun _ => fun
  | [d1, d2, d3] => { results := [.lit (.bool false)], args := [d1, d2, d3] }
  | _ => none }
def DiskLastsWrongFalsely : Prop := diskLastsRow.holds Try.pinned (OpenSpec.ofChange diskLastsWrong)

/-- 'keystonelaw02.DiskOwn': WHATEVER THE INPUT: true; the input reads as it did. -/
def diskOwnSpec : ChangeSpec := { name := "diskOwn", fn := fun _ => fun
  | [d1, d2] => { results := [.lit (.bool true)], args := [d1, d2] }
  | _ => none }
def diskOwnRow : OpenClaim := { program := "ytflnlpbcmcfblaa", sum := "80442e28467d9a0cece7e8949ed7d7e2de031b713272d60d8c008d93f8f3866f", func := "keystone/keystonelaw02.DiskOwn", spec := "diskOwn", unfollowed := true, recurses := true, apart := false }
def DiskOwnSaid : Prop := diskOwnRow.holds Try.pinned (OpenSpec.ofChange diskOwnSpec)

/-- ITS FALSE NEIGHBOUR: 'it returns false'. Refute it at one input. -/
def diskOwnWrong : ChangeSpec := { name := "diskOwn", fn := fun _ => fun
  | [d1, d2] => { results := [.lit (.bool false)], args := [d1, d2] }
  | _ => none }
def DiskOwnWrongFalsely : Prop := diskOwnRow.holds Try.pinned (OpenSpec.ofChange diskOwnWrong)

/-- 'keystonelaw02.DiskCuts': WHATEVER THE INPUT: true; the input reads as it did. -/
def diskCutsSpec : ChangeSpec := { name := "diskCuts", fn := fun _ => fun
  | [d1, d2, d3] => { results := [.lit (.bool true)], args := [d1, d2, d3] }
  | _ => none }
def diskCutsRow : OpenClaim := { program := "ytflnlpbcmcfblaa", sum := "80442e28467d9a0cece7e8949ed7d7e2de031b713272d60d8c008d93f8f3866f", func := "keystone/keystonelaw02.DiskCuts", spec := "diskCuts", apart := false }
def DiskCutsSaid : Prop := diskCutsRow.holds Try.pinned (OpenSpec.ofChange diskCutsSpec)

/-- ITS FALSE NEIGHBOUR: 'it returns false'. Refute it at one input. -/
def diskCutsWrong : ChangeSpec := { name := "diskCuts", fn := fun _ => fun
  | [d1, d2, d3] => { results := [.lit (.bool false)], args := [d1, d2, d3] }
  | _ => none }
def DiskCutsWrongFalsely : Prop := diskCutsRow.holds Try.pinned (OpenSpec.ofChange diskCutsWrong)

/-- 'keystonelaw02.DiskChooses': WHATEVER THE INPUT: true; the input reads as it did. -/
def diskChoosesSpec : ChangeSpec := { name := "diskChooses", fn := fun _ => fun
  | [d1, d2, d3, d4] => { results := [.lit (.bool true)], args := [d1, d2, d3, d4] }
  | _ => none }
def diskChoosesRow : OpenClaim := { program := "ytflnlpbcmcfblaa", sum := "80442e28467d9a0cece7e8949ed7d7e2de031b713272d60d8c008d93f8f3866f", func := "keystone/keystonelaw02.DiskChooses", spec := "diskChooses", unfollowed := true, recurses := true, apart := false }
def DiskChoosesSaid : Prop := diskChoosesRow.holds Try.pinned (OpenSpec.ofChange diskChoosesSpec)

/-- ITS FALSE NEIGHBOUR: 'it returns false'. Refute it at one input. -/
def diskChoosesWrong : ChangeSpec := { name := "diskChooses", fn := fun _ => fun
  | [d1, d2, d3, d4] => { results := [.lit (.bool false)], args := [d1, d2, d3, d4] }
  | _ => none }
def DiskChoosesWrongFalsely : Prop := diskChoosesRow.holds Try.pinned (OpenSpec.ofChange diskChoosesWrong)

/-- 'keystonelaw02.DiskDoes': WHATEVER THE INPUT: true; the input reads as it did. -/
def diskDoesSpec : ChangeSpec := { name := "diskDoes", fn := fun _ => fun
  | [d1, d2] => { results := [.lit (.bool true)], args := [d1, d2] }
  | _ => none }
def diskDoesRow : OpenClaim := { program := "ytflnlpbcmcfblaa", sum := "80442e28467d9a0cece7e8949ed7d7e2de031b713272d60d8c008d93f8f3866f", func := "keystone/keystonelaw02.DiskDoes", spec := "diskDoes", unfollowed := true, recurses := true, apart := false }
def DiskDoesSaid : Prop := diskDoesRow.holds Try.pinned (OpenSpec.ofChange diskDoesSpec)

/-- ITS FALSE NEIGHBOUR: 'it returns false'. Refute it at one input. -/
def diskDoesWrong : ChangeSpec := { name := "diskDoes", fn := fun _ => fun
  | [d1, d2] => { results := [.lit (.bool false)], args := [d1, d2] }
  | _ => none }
def DiskDoesWrongFalsely : Prop := diskDoesRow.holds Try.pinned (OpenSpec.ofChange diskDoesWrong)

/-- 'keystonelaw02.DiskNone': WHATEVER THE INPUT: true; the input reads as it did. -/
def diskNoneSpec : ChangeSpec := { name := "diskNone", fn := fun _ => fun
  | [d1, d2, d3] => { results := [.lit (.bool true)], args := [d1, d2, d3] }
  | _ => none }
def diskNoneRow : OpenClaim := { program := "ytflnlpbcmcfblaa", sum := "80442e28467d9a0cece7e8949ed7d7e2de031b713272d60d8c008d93f8f3866f", func := "keystone/keystonelaw02.DiskNone", spec := "diskNone", unfollowed := true, recurses := true, apart := false }
def DiskNoneSaid : Prop := diskNoneRow.holds Try.pinned (OpenSpec.ofChange diskNoneSpec)

/-- ITS FALSE NEIGHBOUR: 'it returns false'. Refute it at one input. -/
def diskNoneWrong : ChangeSpec := { name := "diskNone", fn := fun _ => fun
  | [d1, d2, d3] => { results := [.lit (.bool false)], args := [d1, d2, d3] }
  | _ => none }
def DiskNoneWrongFalsely : Prop := diskNoneRow.holds Try.pinned (OpenSpec.ofChange diskNoneWrong)

/-- 'keystonelaw02.DiskLoads': WHATEVER THE INPUT: true; the input reads as it did. -/
def diskLoadsSpec : ChangeSpec := { name := "diskLoads", fn := fun _ => fun
  | [d1, d2, d3] => { results := [.lit (.bool true)], args := [d1, d2, d3] }
  | _ => none }
def diskLoadsRow : OpenClaim := { program := "ytflnlpbcmcfblaa", sum := "80442e28467d9a0cece7e8949ed7d7e2de031b713272d60d8c008d93f8f3866f", func := "keystone/keystonelaw02.DiskLoads", spec := "diskLoads", unfollowed := true, recurses := true, apart := false }
def DiskLoadsSaid : Prop := diskLoadsRow.holds Try.pinned (OpenSpec.ofChange diskLoadsSpec)

/-- ITS FALSE NEIGHBOUR: 'it returns false'. Refute it at one input. -/
def diskLoadsWrong : ChangeSpec := { name := "diskLoads", fn := fun _ => fun
  | [d1, d2, d3] => { results := [.lit (.bool false)], args := [d1, d2, d3] }
  | _ => none }
def DiskLoadsWrongFalsely : Prop := diskLoadsRow.holds Try.pinned (OpenSpec.ofChange diskLoadsWrong)

/-- 'keystonelaw03.LogBlocks': WHATEVER THE INPUT: true; the input reads as it did. -/
def logBlocksSpec : ChangeSpec := { name := "logBlocks", fn := fun _ => fun
  | [d] => { results := [.lit (.bool true)], args := [d] }
  | _ => none }
def logBlocksRow : OpenClaim := { program := "ytflnlpbcmcfblaa", sum := "80442e28467d9a0cece7e8949ed7d7e2de031b713272d60d8c008d93f8f3866f", func := "keystone/keystonelaw03.LogBlocks", spec := "logBlocks", apart := false }
def LogBlocksSaid : Prop := logBlocksRow.holds Try.pinned (OpenSpec.ofChange logBlocksSpec)

/-- ITS FALSE NEIGHBOUR: 'it returns false'. Refute it at one input. -/
def logBlocksWrong : ChangeSpec := { name := "logBlocks", fn := fun _ => fun
  | [d] => { results := [.lit (.bool false)], args := [d] }
  | _ => none }
def LogBlocksWrongFalsely : Prop := logBlocksRow.holds Try.pinned (OpenSpec.ofChange logBlocksWrong)

/-- 'keystonelaw03.LogAny': WHATEVER THE INPUT: true; the input reads as it did. -/
def logAnySpec : ChangeSpec := { name := "logAny", fn := fun _ => fun
  | [d1, d2] => { results := [.lit (.bool true)], args := [d1, d2] }
  | _ => none }
def logAnyRow : OpenClaim := { program := "ytflnlpbcmcfblaa", sum := "80442e28467d9a0cece7e8949ed7d7e2de031b713272d60d8c008d93f8f3866f", func := "keystone/keystonelaw03.LogAny", spec := "logAny", unfollowed := true, recurses := true, apart := false }
def LogAnySaid : Prop := logAnyRow.holds Try.pinned (OpenSpec.ofChange logAnySpec)

/-- ITS FALSE NEIGHBOUR: 'it returns false'. Refute it at one input. -/
def logAnyWrong : ChangeSpec := { name := "logAny", fn := fun _ => fun
  | [d1, d2] => { results := [.lit (.bool false)], args := [d1, d2] }
  | _ => none }
def LogAnyWrongFalsely : Prop := logAnyRow.holds Try.pinned (OpenSpec.ofChange logAnyWrong)

/-- 'keystonelaw03.LogOwn': WHATEVER THE INPUT: true; the input reads as it did. -/
def logOwnSpec : ChangeSpec := { name := "logOwn", fn := fun _ => fun
  | [d] => { results := [.lit (.bool true)], args := [d] }
  | _ => none }
def logOwnRow : OpenClaim := { program := "ytflnlpbcmcfblaa", sum := "80442e28467d9a0cece7e8949ed7d7e2de031b713272d60d8c008d93f8f3866f", func := "keystone/keystonelaw03.LogOwn", spec := "logOwn", unfollowed := true, recurses := true, apart := false }
def LogOwnSaid : Prop := logOwnRow.holds Try.pinned (OpenSpec.ofChange logOwnSpec)

/-- ITS FALSE NEIGHBOUR: 'it returns false'. Refute it at one input. -/
def logOwnWrong : ChangeSpec := { name := "logOwn", fn := fun _ => fun
  | [d] => { results := [.lit (.bool false)], args := [d] }
  | _ => none }
def LogOwnWrongFalsely : Prop := logOwnRow.holds Try.pinned (OpenSpec.ofChange logOwnWrong)

/-- 'keystonelaw03.LogNone': WHATEVER THE INPUT: true; the input reads as it did. -/
def logNoneSpec : ChangeSpec := { name := "logNone", fn := fun _ => fun
  | [d] => { results := [.lit (.bool true)], args := [d] }
  | _ => none }
def logNoneRow : OpenClaim := { program := "ytflnlpbcmcfblaa", sum := "80442e28467d9a0cece7e8949ed7d7e2de031b713272d60d8c008d93f8f3866f", func := "keystone/keystonelaw03.LogNone", spec := "logNone", unfollowed := true, recurses := true, apart := false }
def LogNoneSaid : Prop := logNoneRow.holds Try.pinned (OpenSpec.ofChange logNoneSpec)

/-- ITS FALSE NEIGHBOUR: 'it returns false'. Refute it at one input. -/
def logNoneWrong : ChangeSpec := { name := "logNone", fn := fun _ => fun
  | [d] => { results := [.lit (.bool false)], args := [d] }
  | _ => none }
def LogNoneWrongFalsely : Prop := logNoneRow.holds Try.pinned (OpenSpec.ofChange logNoneWrong)

/-- 'keystonelaw03.LogKeeps': WHATEVER THE INPUT: true; the input reads as it did. -/
def logKeepsSpec : ChangeSpec := { name := "logKeeps", fn := fun _ => fun
  | [d1, d2] => { results := [.lit (.bool true)], args := [d1, d2] }
  | _ => none }
def logKeepsRow : OpenClaim := { program := "ytflnlpbcmcfblaa", sum := "80442e28467d9a0cece7e8949ed7d7e2de031b713272d60d8c008d93f8f3866f", func := "keystone/keystonelaw03.LogKeeps", spec := "logKeeps", unfollowed := true, recurses := true, apart := false }
def LogKeepsSaid : Prop := logKeepsRow.holds Try.pinned (OpenSpec.ofChange logKeepsSpec)

/-- ITS FALSE NEIGHBOUR: 'it returns false'. Refute it at one input. -/
def logKeepsWrong : ChangeSpec := { name := "logKeeps", fn := fun _ => fun
  | [d1, d2] => { results := [.lit (.bool false)], args := [d1, d2] }
  | _ => none }
def LogKeepsWrongFalsely : Prop := logKeepsRow.holds Try.pinned (OpenSpec.ofChange logKeepsWrong)

/-- 'keystonelaw03.LogFits': WHATEVER THE INPUT: true; the input reads as it did. -/
def logFitsSpec : ChangeSpec := { name := "logFits", fn := fun _ => fun
  | [d1, d2] => { results := [.lit (.bool true)], args := [d1, d2] }
  | _ => none }
def logFitsRow : OpenClaim := { program := "ytflnlpbcmcfblaa", sum := "80442e28467d9a0cece7e8949ed7d7e2de031b713272d60d8c008d93f8f3866f", func := "keystone/keystonelaw03.LogFits", spec := "logFits", unfollowed := true, recurses := true, apart := false }
def LogFitsSaid : Prop := logFitsRow.holds Try.pinned (OpenSpec.ofChange logFitsSpec)

/-- ITS FALSE NEIGHBOUR: 'it returns false'. Refute it at one input. -/
def logFitsWrong : ChangeSpec := { name := "logFits", fn := fun _ => fun
  | [d1, d2] => { results := [.lit (.bool false)], args := [d1, d2] }
  | _ => none }
def LogFitsWrongFalsely : Prop := logFitsRow.holds Try.pinned (OpenSpec.ofChange logFitsWrong)

/-- 'keystonelaw03.LogWrites': WHATEVER THE INPUT: true; the input reads as it did. -/
def logWritesSpec : ChangeSpec := { name := "logWrites", fn := fun _ => fun
  | [d1, d2] => { results := [.lit (.bool true)], args := [d1, d2] }
  | _ => none }
def logWritesRow : OpenClaim := { program := "ytflnlpbcmcfblaa", sum := "80442e28467d9a0cece7e8949ed7d7e2de031b713272d60d8c008d93f8f3866f", func := "keystone/keystonelaw03.LogWrites", spec := "logWrites", unfollowed := true, recurses := true, apart := false }
def LogWritesSaid : Prop := logWritesRow.holds Try.pinned (OpenSpec.ofChange logWritesSpec)

/-- ITS FALSE NEIGHBOUR: 'it returns false'. Refute it at one input. -/
def logWritesWrong : ChangeSpec := { name := "logWrites", fn := fun _ => fun
  | [d1, d2] => { results := [.lit (.bool false)], args := [d1, d2] }
  | _ => none }
def LogWritesWrongFalsely : Prop := logWritesRow.holds Try.pinned (OpenSpec.ofChange logWritesWrong)

/-- 'keystonelaw03.LogFormats': WHATEVER THE INPUT: true; the input reads as it did. -/
def logFormatsSpec : ChangeSpec := { name := "logFormats", fn := fun _ => fun
  | [d1, d2, d3] => { results := [.lit (.bool true)], args := [d1, d2, d3] }
  | _ => none }
def logFormatsRow : OpenClaim := { program := "ytflnlpbcmcfblaa", sum := "80442e28467d9a0cece7e8949ed7d7e2de031b713272d60d8c008d93f8f3866f", func := "keystone/keystonelaw03.LogFormats", spec := "logFormats", unfollowed := true, recurses := true, apart := false }
def LogFormatsSaid : Prop := logFormatsRow.holds Try.pinned (OpenSpec.ofChange logFormatsSpec)

/-- ITS FALSE NEIGHBOUR: 'it returns false'. Refute it at one input. -/
def logFormatsWrong : ChangeSpec := { name := "logFormats", fn := fun _ => fun
  | [d1, d2, d3] => { results := [.lit (.bool false)], args := [d1, d2, d3] }
  | _ => none }
def LogFormatsWrongFalsely : Prop := logFormatsRow.holds Try.pinned (OpenSpec.ofChange logFormatsWrong)

/- THE SECOND FORM. 'bulk': how many values and letters a reading holds, each counted each time it is reached (what is shared counts as often as it is met; a slice's spare places count too). A statement '..UptoSaid' is the law's where the arguments, and the package variables that the reading takes, are together of bulk at most 1048576: NARROWER than '..Said'. Prove '..Said' where nothing that the law and all that it calls make is longer than what came in: it says more and counts as full. Else prove '..UptoSaid'. A law counts once. -/
mutual
def uptoBulk {H : Type} : DataW H → Nat
  | .lit (.string bytes) => bytes.length + 1
  | .lit _ => 1
  | .nil => 1
  | .ptr d => uptoBulk d + 1
  | .slice elems spare => uptoBulkAll elems + uptoBulkAll spare + 1
  | .agg parts => uptoBulkAll parts + 1
  | .iface _ d => uptoBulk d + 1
  | .map entries => uptoBulkEntries entries + 1
  | .held _ => 1
def uptoBulkAll {H : Type} : List (DataW H) → Nat
  | [] => 0
  | d :: r => uptoBulk d + uptoBulkAll r
def uptoBulkEntries {H : Type} : List (Lit × DataW H) → Nat
  | [] => 0
  | x :: r => uptoBulkEntry x + uptoBulkEntries r
def uptoBulkEntry {H : Type} : Lit × DataW H → Nat
  | (.string bytes, d) => bytes.length + uptoBulk d + 1
  | (_, d) => uptoBulk d + 1
 end
def uptoSmall : (H : Type) → List (DataW H) → Bool := fun _ ds => decide (uptoBulkAll ds ≤ 1048576)
def OpenSpec.upto (s : _root_.Go.ChangeSpec) : _root_.Go.OpenSpec := { _root_.Go.OpenSpec.ofChange s with cond := some uptoSmall }

/-- 'keystonelaw02.DiskLasts', WHERE WHAT IT READS IS OF BULK AT MOST 1048576: true; the input reads as it did. -/
def diskLastsUptoRow : OpenClaim := { program := "ytflnlpbcmcfblaa", sum := "80442e28467d9a0cece7e8949ed7d7e2de031b713272d60d8c008d93f8f3866f", func := "keystone/keystonelaw02.DiskLasts", spec := "diskLasts", unfollowed := true, recurses := true, apart := false, narrowed := true }
def DiskLastsUptoSaid : Prop := diskLastsUptoRow.holds Try.pinned (OpenSpec.upto diskLastsSpec)

/-- 'keystonelaw02.DiskOwn', WHERE WHAT IT READS IS OF BULK AT MOST 1048576: true; the input reads as it did. -/
def diskOwnUptoRow : OpenClaim := { program := "ytflnlpbcmcfblaa", sum := "80442e28467d9a0cece7e8949ed7d7e2de031b713272d60d8c008d93f8f3866f", func := "keystone/keystonelaw02.DiskOwn", spec := "diskOwn", unfollowed := true, recurses := true, apart := false, narrowed := true }
def DiskOwnUptoSaid : Prop := diskOwnUptoRow.holds Try.pinned (OpenSpec.upto diskOwnSpec)

/-- 'keystonelaw02.DiskCuts', WHERE WHAT IT READS IS OF BULK AT MOST 1048576: true; the input reads as it did. -/
def diskCutsUptoRow : OpenClaim := { program := "ytflnlpbcmcfblaa", sum := "80442e28467d9a0cece7e8949ed7d7e2de031b713272d60d8c008d93f8f3866f", func := "keystone/keystonelaw02.DiskCuts", spec := "diskCuts", apart := false, narrowed := true }
def DiskCutsUptoSaid : Prop := diskCutsUptoRow.holds Try.pinned (OpenSpec.upto diskCutsSpec)

/-- 'keystonelaw02.DiskChooses', WHERE WHAT IT READS IS OF BULK AT MOST 1048576: true; the input reads as it did. -/
def diskChoosesUptoRow : OpenClaim := { program := "ytflnlpbcmcfblaa", sum := "80442e28467d9a0cece7e8949ed7d7e2de031b713272d60d8c008d93f8f3866f", func := "keystone/keystonelaw02.DiskChooses", spec := "diskChooses", unfollowed := true, recurses := true, apart := false, narrowed := true }
def DiskChoosesUptoSaid : Prop := diskChoosesUptoRow.holds Try.pinned (OpenSpec.upto diskChoosesSpec)

/-- 'keystonelaw02.DiskDoes', WHERE WHAT IT READS IS OF BULK AT MOST 1048576: true; the input reads as it did. -/
def diskDoesUptoRow : OpenClaim := { program := "ytflnlpbcmcfblaa", sum := "80442e28467d9a0cece7e8949ed7d7e2de031b713272d60d8c008d93f8f3866f", func := "keystone/keystonelaw02.DiskDoes", spec := "diskDoes", unfollowed := true, recurses := true, apart := false, narrowed := true }
def DiskDoesUptoSaid : Prop := diskDoesUptoRow.holds Try.pinned (OpenSpec.upto diskDoesSpec)

/-- 'keystonelaw02.DiskNone', WHERE WHAT IT READS IS OF BULK AT MOST 1048576: true; the input reads as it did. -/
def diskNoneUptoRow : OpenClaim := { program := "ytflnlpbcmcfblaa", sum := "80442e28467d9a0cece7e8949ed7d7e2de031b713272d60d8c008d93f8f3866f", func := "keystone/keystonelaw02.DiskNone", spec := "diskNone", unfollowed := true, recurses := true, apart := false, narrowed := true }
def DiskNoneUptoSaid : Prop := diskNoneUptoRow.holds Try.pinned (OpenSpec.upto diskNoneSpec)

/-- 'keystonelaw02.DiskLoads', WHERE WHAT IT READS IS OF BULK AT MOST 1048576: true; the input reads as it did. -/
def diskLoadsUptoRow : OpenClaim := { program := "ytflnlpbcmcfblaa", sum := "80442e28467d9a0cece7e8949ed7d7e2de031b713272d60d8c008d93f8f3866f", func := "keystone/keystonelaw02.DiskLoads", spec := "diskLoads", unfollowed := true, recurses := true, apart := false, narrowed := true }
def DiskLoadsUptoSaid : Prop := diskLoadsUptoRow.holds Try.pinned (OpenSpec.upto diskLoadsSpec)

/-- 'keystonelaw03.LogBlocks', WHERE WHAT IT READS IS OF BULK AT MOST 1048576: true; the input reads as it did. -/
def logBlocksUptoRow : OpenClaim := { program := "ytflnlpbcmcfblaa", sum := "80442e28467d9a0cece7e8949ed7d7e2de031b713272d60d8c008d93f8f3866f", func := "keystone/keystonelaw03.LogBlocks", spec := "logBlocks", apart := false, narrowed := true }
def LogBlocksUptoSaid : Prop := logBlocksUptoRow.holds Try.pinned (OpenSpec.upto logBlocksSpec)

/-- 'keystonelaw03.LogAny', WHERE WHAT IT READS IS OF BULK AT MOST 1048576: true; the input reads as it did. -/
def logAnyUptoRow : OpenClaim := { program := "ytflnlpbcmcfblaa", sum := "80442e28467d9a0cece7e8949ed7d7e2de031b713272d60d8c008d93f8f3866f", func := "keystone/keystonelaw03.LogAny", spec := "logAny", unfollowed := true, recurses := true, apart := false, narrowed := true }
def LogAnyUptoSaid : Prop := logAnyUptoRow.holds Try.pinned (OpenSpec.upto logAnySpec)

/-- 'keystonelaw03.LogOwn', WHERE WHAT IT READS IS OF BULK AT MOST 1048576: true; the input reads as it did. -/
def logOwnUptoRow : OpenClaim := { program := "ytflnlpbcmcfblaa", sum := "80442e28467d9a0cece7e8949ed7d7e2de031b713272d60d8c008d93f8f3866f", func := "keystone/keystonelaw03.LogOwn", spec := "logOwn", unfollowed := true, recurses := true, apart := false, narrowed := true }
def LogOwnUptoSaid : Prop := logOwnUptoRow.holds Try.pinned (OpenSpec.upto logOwnSpec)

/-- 'keystonelaw03.LogNone', WHERE WHAT IT READS IS OF BULK AT MOST 1048576: true; the input reads as it did. -/
def logNoneUptoRow : OpenClaim := { program := "ytflnlpbcmcfblaa", sum := "80442e28467d9a0cece7e8949ed7d7e2de031b713272d60d8c008d93f8f3866f", func := "keystone/keystonelaw03.LogNone", spec := "logNone", unfollowed := true, recurses := true, apart := false, narrowed := true }
def LogNoneUptoSaid : Prop := logNoneUptoRow.holds Try.pinned (OpenSpec.upto logNoneSpec)

/-- 'keystonelaw03.LogKeeps', WHERE WHAT IT READS IS OF BULK AT MOST 1048576: true; the input reads as it did. -/
def logKeepsUptoRow : OpenClaim := { program := "ytflnlpbcmcfblaa", sum := "80442e28467d9a0cece7e8949ed7d7e2de031b713272d60d8c008d93f8f3866f", func := "keystone/keystonelaw03.LogKeeps", spec := "logKeeps", unfollowed := true, recurses := true, apart := false, narrowed := true }
def LogKeepsUptoSaid : Prop := logKeepsUptoRow.holds Try.pinned (OpenSpec.upto logKeepsSpec)

/-- 'keystonelaw03.LogFits', WHERE WHAT IT READS IS OF BULK AT MOST 1048576: true; the input reads as it did. -/
def logFitsUptoRow : OpenClaim := { program := "ytflnlpbcmcfblaa", sum := "80442e28467d9a0cece7e8949ed7d7e2de031b713272d60d8c008d93f8f3866f", func := "keystone/keystonelaw03.LogFits", spec := "logFits", unfollowed := true, recurses := true, apart := false, narrowed := true }
def LogFitsUptoSaid : Prop := logFitsUptoRow.holds Try.pinned (OpenSpec.upto logFitsSpec)

/-- 'keystonelaw03.LogWrites', WHERE WHAT IT READS IS OF BULK AT MOST 1048576: true; the input reads as it did. -/
def logWritesUptoRow : OpenClaim := { program := "ytflnlpbcmcfblaa", sum := "80442e28467d9a0cece7e8949ed7d7e2de031b713272d60d8c008d93f8f3866f", func := "keystone/keystonelaw03.LogWrites", spec := "logWrites", unfollowed := true, recurses := true, apart := false, narrowed := true }
def LogWritesUptoSaid : Prop := logWritesUptoRow.holds Try.pinned (OpenSpec.upto logWritesSpec)

/-- 'keystonelaw03.LogFormats', WHERE WHAT IT READS IS OF BULK AT MOST 1048576: true; the input reads as it did. -/
def logFormatsUptoRow : OpenClaim := { program := "ytflnlpbcmcfblaa", sum := "80442e28467d9a0cece7e8949ed7d7e2de031b713272d60d8c008d93f8f3866f", func := "keystone/keystonelaw03.LogFormats", spec := "logFormats", unfollowed := true, recurses := true, apart := false, narrowed := true }
def LogFormatsUptoSaid : Prop := logFormatsUptoRow.holds Try.pinned (OpenSpec.upto logFormatsSpec)

end Rows
end Go.Proofs.Ytflnlpbcmcfblaa
