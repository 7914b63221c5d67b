/-
  DERIVED. GIVEN WITH THE SEED: THE CARDS: each row of YtlhbfdakceipkaaGreatDoorRows.lean that lists a variable, with what it lists TIED to the program's text (the seventh form; the later family's looks); each row that meets fmt, with fmt's text TOLD by the authors' own Lean function (tested against real Go, not proved from fmt's source: count such statements apart). THE CARD IS WHAT COUNTS. Prove the row's statement (the work); the ties are given (YtlhbfdakceipkaaGreatDoorTie.lean); close each card by the builder's one call (the guide's Derived/Test/ToyasCard.lean, 'card_holds'). Laid BY PROGRAM, IN A SANDBOX (cutbox-door.mjs). By AI agents, Wed Nov 11 2026. No macro, syntax, notation, axiom, sorry.
-/
import Derived.Test.YtlhbfdakceipkaaGreatDoorRows
import GoSem.ClaimSeven
namespace Go.Proofs.YtlhbfdakceipkaaGreatDoor
namespace Rows

/-- THE TIED CARD OF 'handfastlaw12.PackTells'. -/
def packTellsCard : Claim7 := { stood := { row := packTellsRow, standIns := [], harness := (true, "b30b0f5870b33e6a448b6fb9dd476fa1e9958d19389e080872b9ab215e598ff3"), looks := true }, kinds := [], alts := [], laidByText := true, laidKinds := [.data, .data, .data], laidTests := true, laidLooks := .later }
def PackTellsCardSaid : Prop := Claim7.holds Tryz.pinned (.plain (OpenSpec.ofChange packTellsSpec)) packTellsCard

/-- THE TIED CARD OF 'handfastlaw07.ReadForms'. -/
def readFormsCard : Claim7 := { stood := { row := readFormsRow, standIns := [], harness := (true, "b30b0f5870b33e6a448b6fb9dd476fa1e9958d19389e080872b9ab215e598ff3"), looks := true }, kinds := [], alts := [], laidByText := true, laidKinds := [.data, .data, .data, .data, .sentinel, .sentinel, .pinned], laidTests := true, laidLooks := .later }
def ReadFormsCardSaid : Prop := Claim7.holds Tryz.pinned (.plain (OpenSpec.ofChange readFormsSpec)) readFormsCard

/-- THE TIED CARD OF 'handfastlaw07.ReadTells'. -/
def readTellsCard : Claim7 := { stood := { row := readTellsRow, standIns := [], harness := (true, "b30b0f5870b33e6a448b6fb9dd476fa1e9958d19389e080872b9ab215e598ff3"), looks := true }, kinds := [], alts := [], laidByText := true, laidKinds := [.data, .data, .data, .data, .sentinel, .sentinel, .pinned], laidTests := true, laidLooks := .later }
def ReadTellsCardSaid : Prop := Claim7.holds Tryz.pinned (.plain (OpenSpec.ofChange readTellsSpec)) readTellsCard

/-- THE TIED CARD OF 'handfastlaw07.ReadKinds'. -/
def readKindsCard : Claim7 := { stood := { row := readKindsRow, standIns := [], harness := (true, "b30b0f5870b33e6a448b6fb9dd476fa1e9958d19389e080872b9ab215e598ff3"), looks := true }, kinds := [], alts := [], laidByText := true, laidKinds := [.data, .data, .data, .data, .sentinel, .sentinel, .pinned], laidTests := true, laidLooks := .later }
def ReadKindsCardSaid : Prop := Claim7.holds Tryz.pinned (.plain (OpenSpec.ofChange readKindsSpec)) readKindsCard

/-- THE TIED CARD OF 'handfastlaw07.ReadEnds'. -/
def readEndsCard : Claim7 := { stood := { row := readEndsRow, standIns := [], harness := (true, "b30b0f5870b33e6a448b6fb9dd476fa1e9958d19389e080872b9ab215e598ff3"), looks := true }, kinds := [], alts := [], laidByText := true, laidKinds := [.data, .data, .data, .data, .sentinel, .sentinel, .pinned], laidTests := true, laidLooks := .later }
def ReadEndsCardSaid : Prop := Claim7.holds Tryz.pinned (.plain (OpenSpec.ofChange readEndsSpec)) readEndsCard

/-- THE TIED CARD OF 'handfastlaw07.ReadOnce'. -/
def readOnceCard : Claim7 := { stood := { row := readOnceRow, standIns := [], harness := (true, "b30b0f5870b33e6a448b6fb9dd476fa1e9958d19389e080872b9ab215e598ff3"), looks := true }, kinds := [], alts := [], laidByText := true, laidKinds := [.data, .data, .data, .data, .sentinel, .sentinel, .pinned], laidTests := true, laidLooks := .later }
def ReadOnceCardSaid : Prop := Claim7.holds Tryz.pinned (.plain (OpenSpec.ofChange readOnceSpec)) readOnceCard

/-- THE TIED CARD OF 'handfastlaw07.ReadBack'. -/
def readBackCard : Claim7 := { stood := { row := readBackRow, standIns := [], harness := (true, "b30b0f5870b33e6a448b6fb9dd476fa1e9958d19389e080872b9ab215e598ff3"), looks := true }, kinds := [], alts := [], laidByText := true, laidKinds := [.data, .data, .data, .data, .sentinel, .sentinel, .pinned], laidTests := true, laidLooks := .later }
def ReadBackCardSaid : Prop := Claim7.holds Tryz.pinned (.plain (OpenSpec.ofChange readBackSpec)) readBackCard

/-- THE TIED CARD OF 'handfastlaw12.PackTakes'. -/
def packTakesCard : Claim7 := { stood := { row := packTakesRow, standIns := [], harness := (true, "b30b0f5870b33e6a448b6fb9dd476fa1e9958d19389e080872b9ab215e598ff3"), looks := true }, kinds := [], alts := [], laidByText := true, laidKinds := [.data, .data, .data, .data, .sentinel, .sentinel, .pinned], laidTests := true, laidLooks := .later }
def PackTakesCardSaid : Prop := Claim7.holds Tryz.pinned (.plain (OpenSpec.ofChange packTakesSpec)) packTakesCard

/-- THE TIED CARD OF 'handfastlaw12.PackBack'. -/
def packBackCard : Claim7 := { stood := { row := packBackRow, standIns := [], harness := (true, "b30b0f5870b33e6a448b6fb9dd476fa1e9958d19389e080872b9ab215e598ff3"), looks := true }, kinds := [], alts := [], laidByText := true, laidKinds := [.data, .data, .data, .data, .sentinel, .sentinel, .pinned], laidTests := true, laidLooks := .later }
def PackBackCardSaid : Prop := Claim7.holds Tryz.pinned (.plain (OpenSpec.ofChange packBackSpec)) packBackCard

/-- THE SECOND FORM's CARD OF 'handfastlaw12.PackTells'. -/
def packTellsUptoCard : Claim7 := { stood := { row := packTellsUptoRow, standIns := [], harness := (true, "b30b0f5870b33e6a448b6fb9dd476fa1e9958d19389e080872b9ab215e598ff3"), looks := true }, kinds := [], alts := [], laidByText := true, laidKinds := [.data, .data, .data], laidTests := true, laidLooks := .later }
def PackTellsUptoCardSaid : Prop := Claim7.holds Tryz.pinned (.plain (OpenSpec.upto packTellsSpec)) packTellsUptoCard

/-- THE SECOND FORM's CARD OF 'handfastlaw07.ReadForms'. -/
def readFormsUptoCard : Claim7 := { stood := { row := readFormsUptoRow, standIns := [], harness := (true, "b30b0f5870b33e6a448b6fb9dd476fa1e9958d19389e080872b9ab215e598ff3"), looks := true }, kinds := [], alts := [], laidByText := true, laidKinds := [.data, .data, .data, .data, .sentinel, .sentinel, .pinned], laidTests := true, laidLooks := .later }
def ReadFormsUptoCardSaid : Prop := Claim7.holds Tryz.pinned (.plain (OpenSpec.upto readFormsSpec)) readFormsUptoCard

/-- THE SECOND FORM's CARD OF 'handfastlaw07.ReadTells'. -/
def readTellsUptoCard : Claim7 := { stood := { row := readTellsUptoRow, standIns := [], harness := (true, "b30b0f5870b33e6a448b6fb9dd476fa1e9958d19389e080872b9ab215e598ff3"), looks := true }, kinds := [], alts := [], laidByText := true, laidKinds := [.data, .data, .data, .data, .sentinel, .sentinel, .pinned], laidTests := true, laidLooks := .later }
def ReadTellsUptoCardSaid : Prop := Claim7.holds Tryz.pinned (.plain (OpenSpec.upto readTellsSpec)) readTellsUptoCard

/-- THE SECOND FORM's CARD OF 'handfastlaw07.ReadKinds'. -/
def readKindsUptoCard : Claim7 := { stood := { row := readKindsUptoRow, standIns := [], harness := (true, "b30b0f5870b33e6a448b6fb9dd476fa1e9958d19389e080872b9ab215e598ff3"), looks := true }, kinds := [], alts := [], laidByText := true, laidKinds := [.data, .data, .data, .data, .sentinel, .sentinel, .pinned], laidTests := true, laidLooks := .later }
def ReadKindsUptoCardSaid : Prop := Claim7.holds Tryz.pinned (.plain (OpenSpec.upto readKindsSpec)) readKindsUptoCard

/-- THE SECOND FORM's CARD OF 'handfastlaw07.ReadEnds'. -/
def readEndsUptoCard : Claim7 := { stood := { row := readEndsUptoRow, standIns := [], harness := (true, "b30b0f5870b33e6a448b6fb9dd476fa1e9958d19389e080872b9ab215e598ff3"), looks := true }, kinds := [], alts := [], laidByText := true, laidKinds := [.data, .data, .data, .data, .sentinel, .sentinel, .pinned], laidTests := true, laidLooks := .later }
def ReadEndsUptoCardSaid : Prop := Claim7.holds Tryz.pinned (.plain (OpenSpec.upto readEndsSpec)) readEndsUptoCard

/-- THE SECOND FORM's CARD OF 'handfastlaw07.ReadOnce'. -/
def readOnceUptoCard : Claim7 := { stood := { row := readOnceUptoRow, standIns := [], harness := (true, "b30b0f5870b33e6a448b6fb9dd476fa1e9958d19389e080872b9ab215e598ff3"), looks := true }, kinds := [], alts := [], laidByText := true, laidKinds := [.data, .data, .data, .data, .sentinel, .sentinel, .pinned], laidTests := true, laidLooks := .later }
def ReadOnceUptoCardSaid : Prop := Claim7.holds Tryz.pinned (.plain (OpenSpec.upto readOnceSpec)) readOnceUptoCard

/-- THE SECOND FORM's CARD OF 'handfastlaw07.ReadBack'. -/
def readBackUptoCard : Claim7 := { stood := { row := readBackUptoRow, standIns := [], harness := (true, "b30b0f5870b33e6a448b6fb9dd476fa1e9958d19389e080872b9ab215e598ff3"), looks := true }, kinds := [], alts := [], laidByText := true, laidKinds := [.data, .data, .data, .data, .sentinel, .sentinel, .pinned], laidTests := true, laidLooks := .later }
def ReadBackUptoCardSaid : Prop := Claim7.holds Tryz.pinned (.plain (OpenSpec.upto readBackSpec)) readBackUptoCard

/-- THE SECOND FORM's CARD OF 'handfastlaw12.PackTakes'. -/
def packTakesUptoCard : Claim7 := { stood := { row := packTakesUptoRow, standIns := [], harness := (true, "b30b0f5870b33e6a448b6fb9dd476fa1e9958d19389e080872b9ab215e598ff3"), looks := true }, kinds := [], alts := [], laidByText := true, laidKinds := [.data, .data, .data, .data, .sentinel, .sentinel, .pinned], laidTests := true, laidLooks := .later }
def PackTakesUptoCardSaid : Prop := Claim7.holds Tryz.pinned (.plain (OpenSpec.upto packTakesSpec)) packTakesUptoCard

/-- THE SECOND FORM's CARD OF 'handfastlaw12.PackBack'. -/
def packBackUptoCard : Claim7 := { stood := { row := packBackUptoRow, standIns := [], harness := (true, "b30b0f5870b33e6a448b6fb9dd476fa1e9958d19389e080872b9ab215e598ff3"), looks := true }, kinds := [], alts := [], laidByText := true, laidKinds := [.data, .data, .data, .data, .sentinel, .sentinel, .pinned], laidTests := true, laidLooks := .later }
def PackBackUptoCardSaid : Prop := Claim7.holds Tryz.pinned (.plain (OpenSpec.upto packBackSpec)) packBackUptoCard
end Rows
end Go.Proofs.YtlhbfdakceipkaaGreatDoor
