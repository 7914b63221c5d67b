/-
  No cell of these rows narrows 'for every input' (looked for: loops, veiled, ifaces, maps, wideKeys, modest, calm, conditions, laid).
  DERIVED. THE GIVEN ROWS OF THIS SEAT. 19 by the template 'for every input the law returns true; each argument reads behind the call as it read before'; 0 by the template 'total and deterministic' (their statements: YtejhjjafmobmbaaTotals.lean).
  GIVEN WITH THE SEED: the statements are not yours to turn. If you find one false, say at which input.
  Laid BY PROGRAM, IN A SANDBOX (cutbox-rows.mjs): the forced cells as the released guide's own fill.sh prints them over the translation f47466090489743a… (all of the seat's roots in one cut). By AI agents, Wed Nov 11 2026. No macro, syntax, notation, axiom, sorry.
-/
import Derived.Test.YtejhjjafmobmbaaChecked
import GoSem.Claim
import GoSem.ClaimJoined
import GoSem.ClaimMapViews
import Derived.JoinedTies
import Derived.KernelRfl
namespace Go.Proofs.Ytejhjjafmobmbaa
/- THE CELL 'sum', in the pinned program and in every row, IS THE sha256 OF THE DUMP (.gsa) THAT YtejhjjafmobmbaaProg.lean LOADS. Nothing in Lean hashes anything: it is a label: what it is worth is what the hold of that sum in a sandbox is worth. -/
noncomputable def Try.pinned : Pinned := { name := "ytejhjjafmobmbaa", sum := "f47466090489743a743c9c9c540bd84df761671aecb2b9dd899e4c42cc333b4e", checked := Try.checked }
namespace Rows
def none {H : Type} : Left H := { results := [], args := [] }

/-- 'handfastlaw20.WindowEpochs': WHATEVER THE INPUT: true; the input reads as it did. -/
def windowEpochsSpec : ChangeSpec := { name := "windowEpochs", fn := fun _ => fun
  | [d1, d2] => { results := [.lit (.bool true)], args := [d1, d2] }
  | _ => none }
def windowEpochsRow : OpenClaim := { program := "ytejhjjafmobmbaa", sum := "f47466090489743a743c9c9c540bd84df761671aecb2b9dd899e4c42cc333b4e", func := "handfast/handfastlaw20.WindowEpochs", spec := "windowEpochs", apart := false }
def WindowEpochsSaid : Prop := windowEpochsRow.holds Try.pinned (OpenSpec.ofChange windowEpochsSpec)

/-- ITS FALSE NEIGHBOUR: 'it returns false'. Refute it at one input. -/
def windowEpochsWrong : ChangeSpec := { name := "windowEpochs", fn := fun _ => fun
  | [d1, d2] => { results := [.lit (.bool false)], args := [d1, d2] }
  | _ => none }
def WindowEpochsWrongFalsely : Prop := windowEpochsRow.holds Try.pinned (OpenSpec.ofChange windowEpochsWrong)

/-- 'handfastlaw20.WindowOnce': WHATEVER THE INPUT: true; the input reads as it did. -/
def windowOnceSpec : ChangeSpec := { name := "windowOnce", fn := fun _ => fun
  | [d] => { results := [.lit (.bool true)], args := [d] }
  | _ => none }
def windowOnceRow : OpenClaim := { program := "ytejhjjafmobmbaa", sum := "f47466090489743a743c9c9c540bd84df761671aecb2b9dd899e4c42cc333b4e", func := "handfast/handfastlaw20.WindowOnce", spec := "windowOnce", apart := false }
def WindowOnceSaid : Prop := windowOnceRow.holds Try.pinned (OpenSpec.ofChange windowOnceSpec)

/-- ITS FALSE NEIGHBOUR: 'it returns false'. Refute it at one input. -/
def windowOnceWrong : ChangeSpec := { name := "windowOnce", fn := fun _ => fun
  | [d] => { results := [.lit (.bool false)], args := [d] }
  | _ => none }
def WindowOnceWrongFalsely : Prop := windowOnceRow.holds Try.pinned (OpenSpec.ofChange windowOnceWrong)

/-- 'handfastlaw20.WindowOrder': WHATEVER THE INPUT: true; the input reads as it did. -/
def windowOrderSpec : ChangeSpec := { name := "windowOrder", fn := fun _ => fun
  | [d1, d2] => { results := [.lit (.bool true)], args := [d1, d2] }
  | _ => none }
def windowOrderRow : OpenClaim := { program := "ytejhjjafmobmbaa", sum := "f47466090489743a743c9c9c540bd84df761671aecb2b9dd899e4c42cc333b4e", func := "handfast/handfastlaw20.WindowOrder", spec := "windowOrder", apart := false }
def WindowOrderSaid : Prop := windowOrderRow.holds Try.pinned (OpenSpec.ofChange windowOrderSpec)

/-- ITS FALSE NEIGHBOUR: 'it returns false'. Refute it at one input. -/
def windowOrderWrong : ChangeSpec := { name := "windowOrder", fn := fun _ => fun
  | [d1, d2] => { results := [.lit (.bool false)], args := [d1, d2] }
  | _ => none }
def WindowOrderWrongFalsely : Prop := windowOrderRow.holds Try.pinned (OpenSpec.ofChange windowOrderWrong)

/-- 'handfastlaw20.WindowFar': WHATEVER THE INPUT: true; the input reads as it did. -/
def windowFarSpec : ChangeSpec := { name := "windowFar", fn := fun _ => fun
  | [d] => { results := [.lit (.bool true)], args := [d] }
  | _ => none }
def windowFarRow : OpenClaim := { program := "ytejhjjafmobmbaa", sum := "f47466090489743a743c9c9c540bd84df761671aecb2b9dd899e4c42cc333b4e", func := "handfast/handfastlaw20.WindowFar", spec := "windowFar", apart := false }
def WindowFarSaid : Prop := windowFarRow.holds Try.pinned (OpenSpec.ofChange windowFarSpec)

/-- ITS FALSE NEIGHBOUR: 'it returns false'. Refute it at one input. -/
def windowFarWrong : ChangeSpec := { name := "windowFar", fn := fun _ => fun
  | [d] => { results := [.lit (.bool false)], args := [d] }
  | _ => none }
def WindowFarWrongFalsely : Prop := windowFarRow.holds Try.pinned (OpenSpec.ofChange windowFarWrong)

/-- 'handfastlaw20.WindowPlays': WHATEVER THE INPUT: true; the input reads as it did. -/
def windowPlaysSpec : ChangeSpec := { name := "windowPlays", fn := fun _ => fun
  | [d1, d2] => { results := [.lit (.bool true)], args := [d1, d2] }
  | _ => none }
def windowPlaysRow : OpenClaim := { program := "ytejhjjafmobmbaa", sum := "f47466090489743a743c9c9c540bd84df761671aecb2b9dd899e4c42cc333b4e", func := "handfast/handfastlaw20.WindowPlays", spec := "windowPlays", apart := false }
def WindowPlaysSaid : Prop := windowPlaysRow.holds Try.pinned (OpenSpec.ofChange windowPlaysSpec)

/-- ITS FALSE NEIGHBOUR: 'it returns false'. Refute it at one input. -/
def windowPlaysWrong : ChangeSpec := { name := "windowPlays", fn := fun _ => fun
  | [d1, d2] => { results := [.lit (.bool false)], args := [d1, d2] }
  | _ => none }
def WindowPlaysWrongFalsely : Prop := windowPlaysRow.holds Try.pinned (OpenSpec.ofChange windowPlaysWrong)

/-- 'handfastlaw01.RunesJoin': WHATEVER THE INPUT: true; the input reads as it did. -/
def runesJoinSpec : ChangeSpec := { name := "runesJoin", fn := fun _ => fun
  | [d1, d2] => { results := [.lit (.bool true)], args := [d1, d2] }
  | _ => none }
def runesJoinRow : OpenClaim := { program := "ytejhjjafmobmbaa", sum := "f47466090489743a743c9c9c540bd84df761671aecb2b9dd899e4c42cc333b4e", func := "handfast/handfastlaw01.RunesJoin", spec := "runesJoin", apart := false }
def RunesJoinSaid : Prop := runesJoinRow.holds Try.pinned (OpenSpec.ofChange runesJoinSpec)

/-- ITS FALSE NEIGHBOUR: 'it returns false'. Refute it at one input. -/
def runesJoinWrong : ChangeSpec := { name := "runesJoin", fn := fun _ => fun
  | [d1, d2] => { results := [.lit (.bool false)], args := [d1, d2] }
  | _ => none }
def RunesJoinWrongFalsely : Prop := runesJoinRow.holds Try.pinned (OpenSpec.ofChange runesJoinWrong)

/-- 'handfastlaw01.RunesBad': WHATEVER THE INPUT: true; the input reads as it did. -/
def runesBadSpec : ChangeSpec := { name := "runesBad", fn := fun _ => fun
  | [d1, d2, d3] => { results := [.lit (.bool true)], args := [d1, d2, d3] }
  | _ => none }
def runesBadRow : OpenClaim := { program := "ytejhjjafmobmbaa", sum := "f47466090489743a743c9c9c540bd84df761671aecb2b9dd899e4c42cc333b4e", func := "handfast/handfastlaw01.RunesBad", spec := "runesBad", apart := false }
def RunesBadSaid : Prop := runesBadRow.holds Try.pinned (OpenSpec.ofChange runesBadSpec)

/-- ITS FALSE NEIGHBOUR: 'it returns false'. Refute it at one input. -/
def runesBadWrong : ChangeSpec := { name := "runesBad", fn := fun _ => fun
  | [d1, d2, d3] => { results := [.lit (.bool false)], args := [d1, d2, d3] }
  | _ => none }
def RunesBadWrongFalsely : Prop := runesBadRow.holds Try.pinned (OpenSpec.ofChange runesBadWrong)

/-- 'handfastlaw01.RunesPlaces': WHATEVER THE INPUT: true; the input reads as it did. -/
def runesPlacesSpec : ChangeSpec := { name := "runesPlaces", fn := fun _ => fun
  | [d] => { results := [.lit (.bool true)], args := [d] }
  | _ => none }
def runesPlacesRow : OpenClaim := { program := "ytejhjjafmobmbaa", sum := "f47466090489743a743c9c9c540bd84df761671aecb2b9dd899e4c42cc333b4e", func := "handfast/handfastlaw01.RunesPlaces", spec := "runesPlaces", apart := false }
def RunesPlacesSaid : Prop := runesPlacesRow.holds Try.pinned (OpenSpec.ofChange runesPlacesSpec)

/-- ITS FALSE NEIGHBOUR: 'it returns false'. Refute it at one input. -/
def runesPlacesWrong : ChangeSpec := { name := "runesPlaces", fn := fun _ => fun
  | [d] => { results := [.lit (.bool false)], args := [d] }
  | _ => none }
def RunesPlacesWrongFalsely : Prop := runesPlacesRow.holds Try.pinned (OpenSpec.ofChange runesPlacesWrong)

/-- 'handfastlaw01.RunesNames': WHATEVER THE INPUT: true; the input reads as it did. -/
def runesNamesSpec : ChangeSpec := { name := "runesNames", fn := fun _ => fun
  | [d1, d2, d3] => { results := [.lit (.bool true)], args := [d1, d2, d3] }
  | _ => none }
def runesNamesRow : OpenClaim := { program := "ytejhjjafmobmbaa", sum := "f47466090489743a743c9c9c540bd84df761671aecb2b9dd899e4c42cc333b4e", func := "handfast/handfastlaw01.RunesNames", spec := "runesNames", apart := false }
def RunesNamesSaid : Prop := runesNamesRow.holds Try.pinned (OpenSpec.ofChange runesNamesSpec)

/-- ITS FALSE NEIGHBOUR: 'it returns false'. Refute it at one input. -/
def runesNamesWrong : ChangeSpec := { name := "runesNames", fn := fun _ => fun
  | [d1, d2, d3] => { results := [.lit (.bool false)], args := [d1, d2, d3] }
  | _ => none }
def RunesNamesWrongFalsely : Prop := runesNamesRow.holds Try.pinned (OpenSpec.ofChange runesNamesWrong)

/-- 'handfastlaw17.FileCuts': WHATEVER THE INPUT: true; the input reads as it did. -/
def fileCutsSpec : ChangeSpec := { name := "fileCuts", fn := fun _ => fun
  | [d1, d2, d3, d4] => { results := [.lit (.bool true)], args := [d1, d2, d3, d4] }
  | _ => none }
def fileCutsRow : OpenClaim := { program := "ytejhjjafmobmbaa", sum := "f47466090489743a743c9c9c540bd84df761671aecb2b9dd899e4c42cc333b4e", func := "handfast/handfastlaw17.FileCuts", spec := "fileCuts", apart := false }
def FileCutsSaid : Prop := fileCutsRow.holds Try.pinned (OpenSpec.ofChange fileCutsSpec)

/-- ITS FALSE NEIGHBOUR: 'it returns false'. Refute it at one input. -/
def fileCutsWrong : ChangeSpec := { name := "fileCuts", fn := fun _ => fun
  | [d1, d2, d3, d4] => { results := [.lit (.bool false)], args := [d1, d2, d3, d4] }
  | _ => none }
def FileCutsWrongFalsely : Prop := fileCutsRow.holds Try.pinned (OpenSpec.ofChange fileCutsWrong)

/-- 'handfastlaw17.FileMemory': WHATEVER THE INPUT: true; the input reads as it did. -/
def fileMemorySpec : ChangeSpec := { name := "fileMemory", fn := fun _ => fun
  | [d1, d2] => { results := [.lit (.bool true)], args := [d1, d2] }
  | _ => none }
def fileMemoryRow : OpenClaim := { program := "ytejhjjafmobmbaa", sum := "f47466090489743a743c9c9c540bd84df761671aecb2b9dd899e4c42cc333b4e", func := "handfast/handfastlaw17.FileMemory", spec := "fileMemory", apart := false }
def FileMemorySaid : Prop := fileMemoryRow.holds Try.pinned (OpenSpec.ofChange fileMemorySpec)

/-- ITS FALSE NEIGHBOUR: 'it returns false'. Refute it at one input. -/
def fileMemoryWrong : ChangeSpec := { name := "fileMemory", fn := fun _ => fun
  | [d1, d2] => { results := [.lit (.bool false)], args := [d1, d2] }
  | _ => none }
def FileMemoryWrongFalsely : Prop := fileMemoryRow.holds Try.pinned (OpenSpec.ofChange fileMemoryWrong)

/-- 'handfastlaw17.FileQuota': WHATEVER THE INPUT: true; the input reads as it did. -/
def fileQuotaSpec : ChangeSpec := { name := "fileQuota", fn := fun _ => fun
  | [d1, d2, d3] => { results := [.lit (.bool true)], args := [d1, d2, d3] }
  | _ => none }
def fileQuotaRow : OpenClaim := { program := "ytejhjjafmobmbaa", sum := "f47466090489743a743c9c9c540bd84df761671aecb2b9dd899e4c42cc333b4e", func := "handfast/handfastlaw17.FileQuota", spec := "fileQuota", apart := false }
def FileQuotaSaid : Prop := fileQuotaRow.holds Try.pinned (OpenSpec.ofChange fileQuotaSpec)

/-- ITS FALSE NEIGHBOUR: 'it returns false'. Refute it at one input. -/
def fileQuotaWrong : ChangeSpec := { name := "fileQuota", fn := fun _ => fun
  | [d1, d2, d3] => { results := [.lit (.bool false)], args := [d1, d2, d3] }
  | _ => none }
def FileQuotaWrongFalsely : Prop := fileQuotaRow.holds Try.pinned (OpenSpec.ofChange fileQuotaWrong)

/-- 'handfastlaw17.FileFuse': WHATEVER THE INPUT: true; the input reads as it did. -/
def fileFuseSpec : ChangeSpec := { name := "fileFuse", fn := fun _ => fun
  | [d1, d2] => { results := [.lit (.bool true)], args := [d1, d2] }
  | _ => none }
def fileFuseRow : OpenClaim := { program := "ytejhjjafmobmbaa", sum := "f47466090489743a743c9c9c540bd84df761671aecb2b9dd899e4c42cc333b4e", func := "handfast/handfastlaw17.FileFuse", spec := "fileFuse", apart := false }
def FileFuseSaid : Prop := fileFuseRow.holds Try.pinned (OpenSpec.ofChange fileFuseSpec)

/-- ITS FALSE NEIGHBOUR: 'it returns false'. Refute it at one input. -/
def fileFuseWrong : ChangeSpec := { name := "fileFuse", fn := fun _ => fun
  | [d1, d2] => { results := [.lit (.bool false)], args := [d1, d2] }
  | _ => none }
def FileFuseWrongFalsely : Prop := fileFuseRow.holds Try.pinned (OpenSpec.ofChange fileFuseWrong)

/-- 'handfastlaw17.FilePlays': WHATEVER THE INPUT: true; the input reads as it did. -/
def filePlaysSpec : ChangeSpec := { name := "filePlays", fn := fun _ => fun
  | [d1, d2] => { results := [.lit (.bool true)], args := [d1, d2] }
  | _ => none }
def filePlaysRow : OpenClaim := { program := "ytejhjjafmobmbaa", sum := "f47466090489743a743c9c9c540bd84df761671aecb2b9dd899e4c42cc333b4e", func := "handfast/handfastlaw17.FilePlays", spec := "filePlays", apart := false }
def FilePlaysSaid : Prop := filePlaysRow.holds Try.pinned (OpenSpec.ofChange filePlaysSpec)

/-- ITS FALSE NEIGHBOUR: 'it returns false'. Refute it at one input. -/
def filePlaysWrong : ChangeSpec := { name := "filePlays", fn := fun _ => fun
  | [d1, d2] => { results := [.lit (.bool false)], args := [d1, d2] }
  | _ => none }
def FilePlaysWrongFalsely : Prop := filePlaysRow.holds Try.pinned (OpenSpec.ofChange filePlaysWrong)

/-- 'handfastlaw18.JournalSpoilt': WHATEVER THE INPUT: true; the input reads as it did. -/
def journalSpoiltSpec : ChangeSpec := { name := "journalSpoilt", fn := fun _ => fun
  | [d1, d2, d3] => { results := [.lit (.bool true)], args := [d1, d2, d3] }
  | _ => none }
def journalSpoiltRow : OpenClaim := { program := "ytejhjjafmobmbaa", sum := "f47466090489743a743c9c9c540bd84df761671aecb2b9dd899e4c42cc333b4e", func := "handfast/handfastlaw18.JournalSpoilt", spec := "journalSpoilt", apart := false }
def JournalSpoiltSaid : Prop := journalSpoiltRow.holds Try.pinned (OpenSpec.ofChange journalSpoiltSpec)

/-- ITS FALSE NEIGHBOUR: 'it returns false'. Refute it at one input. -/
def journalSpoiltWrong : ChangeSpec := { name := "journalSpoilt", fn := fun _ => fun
  | [d1, d2, d3] => { results := [.lit (.bool false)], args := [d1, d2, d3] }
  | _ => none }
def JournalSpoiltWrongFalsely : Prop := journalSpoiltRow.holds Try.pinned (OpenSpec.ofChange journalSpoiltWrong)

/-- 'handfastlaw18.JournalForms': WHATEVER THE INPUT: true; the input reads as it did. -/
def journalFormsSpec : ChangeSpec := { name := "journalForms", fn := fun _ => fun
  | [d] => { results := [.lit (.bool true)], args := [d] }
  | _ => none }
def journalFormsRow : OpenClaim := { program := "ytejhjjafmobmbaa", sum := "f47466090489743a743c9c9c540bd84df761671aecb2b9dd899e4c42cc333b4e", func := "handfast/handfastlaw18.JournalForms", spec := "journalForms", apart := false }
def JournalFormsSaid : Prop := journalFormsRow.holds Try.pinned (OpenSpec.ofChange journalFormsSpec)

/-- ITS FALSE NEIGHBOUR: 'it returns false'. Refute it at one input. -/
def journalFormsWrong : ChangeSpec := { name := "journalForms", fn := fun _ => fun
  | [d] => { results := [.lit (.bool false)], args := [d] }
  | _ => none }
def JournalFormsWrongFalsely : Prop := journalFormsRow.holds Try.pinned (OpenSpec.ofChange journalFormsWrong)

/-- 'handfastlaw18.JournalTrue': WHATEVER THE INPUT: true; the input reads as it did. -/
def journalTrueSpec : ChangeSpec := { name := "journalTrue", fn := fun _ => fun
  | [d1, d2, d3, d4] => { results := [.lit (.bool true)], args := [d1, d2, d3, d4] }
  | _ => none }
def journalTrueRow : OpenClaim := { program := "ytejhjjafmobmbaa", sum := "f47466090489743a743c9c9c540bd84df761671aecb2b9dd899e4c42cc333b4e", func := "handfast/handfastlaw18.JournalTrue", spec := "journalTrue", apart := false }
def JournalTrueSaid : Prop := journalTrueRow.holds Try.pinned (OpenSpec.ofChange journalTrueSpec)

/-- ITS FALSE NEIGHBOUR: 'it returns false'. Refute it at one input. -/
def journalTrueWrong : ChangeSpec := { name := "journalTrue", fn := fun _ => fun
  | [d1, d2, d3, d4] => { results := [.lit (.bool false)], args := [d1, d2, d3, d4] }
  | _ => none }
def JournalTrueWrongFalsely : Prop := journalTrueRow.holds Try.pinned (OpenSpec.ofChange journalTrueWrong)

/-- 'handfastlaw18.JournalFull': WHATEVER THE INPUT: true; the input reads as it did. -/
def journalFullSpec : ChangeSpec := { name := "journalFull", fn := fun _ => fun
  | [d1, d2] => { results := [.lit (.bool true)], args := [d1, d2] }
  | _ => none }
def journalFullRow : OpenClaim := { program := "ytejhjjafmobmbaa", sum := "f47466090489743a743c9c9c540bd84df761671aecb2b9dd899e4c42cc333b4e", func := "handfast/handfastlaw18.JournalFull", spec := "journalFull", apart := false }
def JournalFullSaid : Prop := journalFullRow.holds Try.pinned (OpenSpec.ofChange journalFullSpec)

/-- ITS FALSE NEIGHBOUR: 'it returns false'. Refute it at one input. -/
def journalFullWrong : ChangeSpec := { name := "journalFull", fn := fun _ => fun
  | [d1, d2] => { results := [.lit (.bool false)], args := [d1, d2] }
  | _ => none }
def JournalFullWrongFalsely : Prop := journalFullRow.holds Try.pinned (OpenSpec.ofChange journalFullWrong)

/-- 'handfastlaw18.JournalPlays': WHATEVER THE INPUT: true; the input reads as it did. -/
def journalPlaysSpec : ChangeSpec := { name := "journalPlays", fn := fun _ => fun
  | [d1, d2] => { results := [.lit (.bool true)], args := [d1, d2] }
  | _ => none }
def journalPlaysRow : OpenClaim := { program := "ytejhjjafmobmbaa", sum := "f47466090489743a743c9c9c540bd84df761671aecb2b9dd899e4c42cc333b4e", func := "handfast/handfastlaw18.JournalPlays", spec := "journalPlays", apart := false }
def JournalPlaysSaid : Prop := journalPlaysRow.holds Try.pinned (OpenSpec.ofChange journalPlaysSpec)

/-- ITS FALSE NEIGHBOUR: 'it returns false'. Refute it at one input. -/
def journalPlaysWrong : ChangeSpec := { name := "journalPlays", fn := fun _ => fun
  | [d1, d2] => { results := [.lit (.bool false)], args := [d1, d2] }
  | _ => none }
def JournalPlaysWrongFalsely : Prop := journalPlaysRow.holds Try.pinned (OpenSpec.ofChange journalPlaysWrong)

/- THE SECOND FORM. 'bulk': how many values and letters a reading holds, each counted each time it is reached (what is shared counts as often as it is met; a slice's spare places count too). A statement '..UptoSaid' is the law's where the arguments, and the package variables that the reading takes, are together of bulk at most 1048576: NARROWER than '..Said'. Prove '..Said' where nothing that the law and all that it calls make is longer than what came in: it says more and counts as full. Else prove '..UptoSaid'. A law counts once. -/
mutual
def uptoBulk {H : Type} : DataW H → Nat
  | .lit (.string bytes) => bytes.length + 1
  | .lit _ => 1
  | .nil => 1
  | .ptr d => uptoBulk d + 1
  | .slice elems spare => uptoBulkAll elems + uptoBulkAll spare + 1
  | .agg parts => uptoBulkAll parts + 1
  | .iface _ d => uptoBulk d + 1
  | .map entries => uptoBulkEntries entries + 1
  | .held _ => 1
def uptoBulkAll {H : Type} : List (DataW H) → Nat
  | [] => 0
  | d :: r => uptoBulk d + uptoBulkAll r
def uptoBulkEntries {H : Type} : List (Lit × DataW H) → Nat
  | [] => 0
  | x :: r => uptoBulkEntry x + uptoBulkEntries r
def uptoBulkEntry {H : Type} : Lit × DataW H → Nat
  | (.string bytes, d) => bytes.length + uptoBulk d + 1
  | (_, d) => uptoBulk d + 1
 end
def uptoSmall : (H : Type) → List (DataW H) → Bool := fun _ ds => decide (uptoBulkAll ds ≤ 1048576)
def OpenSpec.upto (s : _root_.Go.ChangeSpec) : _root_.Go.OpenSpec := { _root_.Go.OpenSpec.ofChange s with cond := some uptoSmall }

/-- 'handfastlaw20.WindowEpochs', WHERE WHAT IT READS IS OF BULK AT MOST 1048576: true; the input reads as it did. -/
def windowEpochsUptoRow : OpenClaim := { program := "ytejhjjafmobmbaa", sum := "f47466090489743a743c9c9c540bd84df761671aecb2b9dd899e4c42cc333b4e", func := "handfast/handfastlaw20.WindowEpochs", spec := "windowEpochs", apart := false, narrowed := true }
def WindowEpochsUptoSaid : Prop := windowEpochsUptoRow.holds Try.pinned (OpenSpec.upto windowEpochsSpec)

/-- 'handfastlaw20.WindowOnce', WHERE WHAT IT READS IS OF BULK AT MOST 1048576: true; the input reads as it did. -/
def windowOnceUptoRow : OpenClaim := { program := "ytejhjjafmobmbaa", sum := "f47466090489743a743c9c9c540bd84df761671aecb2b9dd899e4c42cc333b4e", func := "handfast/handfastlaw20.WindowOnce", spec := "windowOnce", apart := false, narrowed := true }
def WindowOnceUptoSaid : Prop := windowOnceUptoRow.holds Try.pinned (OpenSpec.upto windowOnceSpec)

/-- 'handfastlaw20.WindowOrder', WHERE WHAT IT READS IS OF BULK AT MOST 1048576: true; the input reads as it did. -/
def windowOrderUptoRow : OpenClaim := { program := "ytejhjjafmobmbaa", sum := "f47466090489743a743c9c9c540bd84df761671aecb2b9dd899e4c42cc333b4e", func := "handfast/handfastlaw20.WindowOrder", spec := "windowOrder", apart := false, narrowed := true }
def WindowOrderUptoSaid : Prop := windowOrderUptoRow.holds Try.pinned (OpenSpec.upto windowOrderSpec)

/-- 'handfastlaw20.WindowFar', WHERE WHAT IT READS IS OF BULK AT MOST 1048576: true; the input reads as it did. -/
def windowFarUptoRow : OpenClaim := { program := "ytejhjjafmobmbaa", sum := "f47466090489743a743c9c9c540bd84df761671aecb2b9dd899e4c42cc333b4e", func := "handfast/handfastlaw20.WindowFar", spec := "windowFar", apart := false, narrowed := true }
def WindowFarUptoSaid : Prop := windowFarUptoRow.holds Try.pinned (OpenSpec.upto windowFarSpec)

/-- 'handfastlaw20.WindowPlays', WHERE WHAT IT READS IS OF BULK AT MOST 1048576: true; the input reads as it did. -/
def windowPlaysUptoRow : OpenClaim := { program := "ytejhjjafmobmbaa", sum := "f47466090489743a743c9c9c540bd84df761671aecb2b9dd899e4c42cc333b4e", func := "handfast/handfastlaw20.WindowPlays", spec := "windowPlays", apart := false, narrowed := true }
def WindowPlaysUptoSaid : Prop := windowPlaysUptoRow.holds Try.pinned (OpenSpec.upto windowPlaysSpec)

/-- 'handfastlaw01.RunesJoin', WHERE WHAT IT READS IS OF BULK AT MOST 1048576: true; the input reads as it did. -/
def runesJoinUptoRow : OpenClaim := { program := "ytejhjjafmobmbaa", sum := "f47466090489743a743c9c9c540bd84df761671aecb2b9dd899e4c42cc333b4e", func := "handfast/handfastlaw01.RunesJoin", spec := "runesJoin", apart := false, narrowed := true }
def RunesJoinUptoSaid : Prop := runesJoinUptoRow.holds Try.pinned (OpenSpec.upto runesJoinSpec)

/-- 'handfastlaw01.RunesBad', WHERE WHAT IT READS IS OF BULK AT MOST 1048576: true; the input reads as it did. -/
def runesBadUptoRow : OpenClaim := { program := "ytejhjjafmobmbaa", sum := "f47466090489743a743c9c9c540bd84df761671aecb2b9dd899e4c42cc333b4e", func := "handfast/handfastlaw01.RunesBad", spec := "runesBad", apart := false, narrowed := true }
def RunesBadUptoSaid : Prop := runesBadUptoRow.holds Try.pinned (OpenSpec.upto runesBadSpec)

/-- 'handfastlaw01.RunesPlaces', WHERE WHAT IT READS IS OF BULK AT MOST 1048576: true; the input reads as it did. -/
def runesPlacesUptoRow : OpenClaim := { program := "ytejhjjafmobmbaa", sum := "f47466090489743a743c9c9c540bd84df761671aecb2b9dd899e4c42cc333b4e", func := "handfast/handfastlaw01.RunesPlaces", spec := "runesPlaces", apart := false, narrowed := true }
def RunesPlacesUptoSaid : Prop := runesPlacesUptoRow.holds Try.pinned (OpenSpec.upto runesPlacesSpec)

/-- 'handfastlaw01.RunesNames', WHERE WHAT IT READS IS OF BULK AT MOST 1048576: true; the input reads as it did. -/
def runesNamesUptoRow : OpenClaim := { program := "ytejhjjafmobmbaa", sum := "f47466090489743a743c9c9c540bd84df761671aecb2b9dd899e4c42cc333b4e", func := "handfast/handfastlaw01.RunesNames", spec := "runesNames", apart := false, narrowed := true }
def RunesNamesUptoSaid : Prop := runesNamesUptoRow.holds Try.pinned (OpenSpec.upto runesNamesSpec)

/-- 'handfastlaw17.FileCuts', WHERE WHAT IT READS IS OF BULK AT MOST 1048576: true; the input reads as it did. -/
def fileCutsUptoRow : OpenClaim := { program := "ytejhjjafmobmbaa", sum := "f47466090489743a743c9c9c540bd84df761671aecb2b9dd899e4c42cc333b4e", func := "handfast/handfastlaw17.FileCuts", spec := "fileCuts", apart := false, narrowed := true }
def FileCutsUptoSaid : Prop := fileCutsUptoRow.holds Try.pinned (OpenSpec.upto fileCutsSpec)

/-- 'handfastlaw17.FileMemory', WHERE WHAT IT READS IS OF BULK AT MOST 1048576: true; the input reads as it did. -/
def fileMemoryUptoRow : OpenClaim := { program := "ytejhjjafmobmbaa", sum := "f47466090489743a743c9c9c540bd84df761671aecb2b9dd899e4c42cc333b4e", func := "handfast/handfastlaw17.FileMemory", spec := "fileMemory", apart := false, narrowed := true }
def FileMemoryUptoSaid : Prop := fileMemoryUptoRow.holds Try.pinned (OpenSpec.upto fileMemorySpec)

/-- 'handfastlaw17.FileQuota', WHERE WHAT IT READS IS OF BULK AT MOST 1048576: true; the input reads as it did. -/
def fileQuotaUptoRow : OpenClaim := { program := "ytejhjjafmobmbaa", sum := "f47466090489743a743c9c9c540bd84df761671aecb2b9dd899e4c42cc333b4e", func := "handfast/handfastlaw17.FileQuota", spec := "fileQuota", apart := false, narrowed := true }
def FileQuotaUptoSaid : Prop := fileQuotaUptoRow.holds Try.pinned (OpenSpec.upto fileQuotaSpec)

/-- 'handfastlaw17.FileFuse', WHERE WHAT IT READS IS OF BULK AT MOST 1048576: true; the input reads as it did. -/
def fileFuseUptoRow : OpenClaim := { program := "ytejhjjafmobmbaa", sum := "f47466090489743a743c9c9c540bd84df761671aecb2b9dd899e4c42cc333b4e", func := "handfast/handfastlaw17.FileFuse", spec := "fileFuse", apart := false, narrowed := true }
def FileFuseUptoSaid : Prop := fileFuseUptoRow.holds Try.pinned (OpenSpec.upto fileFuseSpec)

/-- 'handfastlaw17.FilePlays', WHERE WHAT IT READS IS OF BULK AT MOST 1048576: true; the input reads as it did. -/
def filePlaysUptoRow : OpenClaim := { program := "ytejhjjafmobmbaa", sum := "f47466090489743a743c9c9c540bd84df761671aecb2b9dd899e4c42cc333b4e", func := "handfast/handfastlaw17.FilePlays", spec := "filePlays", apart := false, narrowed := true }
def FilePlaysUptoSaid : Prop := filePlaysUptoRow.holds Try.pinned (OpenSpec.upto filePlaysSpec)

/-- 'handfastlaw18.JournalSpoilt', WHERE WHAT IT READS IS OF BULK AT MOST 1048576: true; the input reads as it did. -/
def journalSpoiltUptoRow : OpenClaim := { program := "ytejhjjafmobmbaa", sum := "f47466090489743a743c9c9c540bd84df761671aecb2b9dd899e4c42cc333b4e", func := "handfast/handfastlaw18.JournalSpoilt", spec := "journalSpoilt", apart := false, narrowed := true }
def JournalSpoiltUptoSaid : Prop := journalSpoiltUptoRow.holds Try.pinned (OpenSpec.upto journalSpoiltSpec)

/-- 'handfastlaw18.JournalForms', WHERE WHAT IT READS IS OF BULK AT MOST 1048576: true; the input reads as it did. -/
def journalFormsUptoRow : OpenClaim := { program := "ytejhjjafmobmbaa", sum := "f47466090489743a743c9c9c540bd84df761671aecb2b9dd899e4c42cc333b4e", func := "handfast/handfastlaw18.JournalForms", spec := "journalForms", apart := false, narrowed := true }
def JournalFormsUptoSaid : Prop := journalFormsUptoRow.holds Try.pinned (OpenSpec.upto journalFormsSpec)

/-- 'handfastlaw18.JournalTrue', WHERE WHAT IT READS IS OF BULK AT MOST 1048576: true; the input reads as it did. -/
def journalTrueUptoRow : OpenClaim := { program := "ytejhjjafmobmbaa", sum := "f47466090489743a743c9c9c540bd84df761671aecb2b9dd899e4c42cc333b4e", func := "handfast/handfastlaw18.JournalTrue", spec := "journalTrue", apart := false, narrowed := true }
def JournalTrueUptoSaid : Prop := journalTrueUptoRow.holds Try.pinned (OpenSpec.upto journalTrueSpec)

/-- 'handfastlaw18.JournalFull', WHERE WHAT IT READS IS OF BULK AT MOST 1048576: true; the input reads as it did. -/
def journalFullUptoRow : OpenClaim := { program := "ytejhjjafmobmbaa", sum := "f47466090489743a743c9c9c540bd84df761671aecb2b9dd899e4c42cc333b4e", func := "handfast/handfastlaw18.JournalFull", spec := "journalFull", apart := false, narrowed := true }
def JournalFullUptoSaid : Prop := journalFullUptoRow.holds Try.pinned (OpenSpec.upto journalFullSpec)

/-- 'handfastlaw18.JournalPlays', WHERE WHAT IT READS IS OF BULK AT MOST 1048576: true; the input reads as it did. -/
def journalPlaysUptoRow : OpenClaim := { program := "ytejhjjafmobmbaa", sum := "f47466090489743a743c9c9c540bd84df761671aecb2b9dd899e4c42cc333b4e", func := "handfast/handfastlaw18.JournalPlays", spec := "journalPlays", apart := false, narrowed := true }
def JournalPlaysUptoSaid : Prop := journalPlaysUptoRow.holds Try.pinned (OpenSpec.upto journalPlaysSpec)

end Rows
end Go.Proofs.Ytejhjjafmobmbaa
