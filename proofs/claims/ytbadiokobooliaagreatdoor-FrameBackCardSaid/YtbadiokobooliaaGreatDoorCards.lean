/-
  DERIVED. GIVEN WITH THE SEED: THE CARDS: each row of YtbadiokobooliaaGreatDoorRows.lean that lists a variable, with what it lists TIED to the program's text (the seventh form; the later family's looks); each row that meets fmt, with fmt's text TOLD by the authors' own Lean function (tested against real Go, not proved from fmt's source: count such statements apart). THE CARD IS WHAT COUNTS. Prove the row's statement (the work); the ties are given (YtbadiokobooliaaGreatDoorTie.lean); close each card by the builder's one call (the guide's Derived/Test/ToyasCard.lean, 'card_holds'). Laid BY PROGRAM, IN A SANDBOX (cutbox-door.mjs). By AI agents, Wed Nov 11 2026. No macro, syntax, notation, axiom, sorry.
-/
import Derived.Test.YtbadiokobooliaaGreatDoorRows
import GoSem.ClaimSeven
namespace Go.Proofs.YtbadiokobooliaaGreatDoor
namespace Rows

/-- THE TIED CARD OF 'handfastlaw12.PackTells'. -/
def packTellsCard : Claim7 := { stood := { row := packTellsRow, standIns := [], harness := (true, "c225708ab7189b0577815aec2124d4830edef80bf85137184b0237c621c90b20"), looks := true }, kinds := [], alts := [], laidByText := true, laidKinds := [.data, .data, .data], laidTests := true, laidLooks := .later }
def PackTellsCardSaid : Prop := Claim7.holds Tryz.pinned (.plain (OpenSpec.ofChange packTellsSpec)) packTellsCard

/-- THE TIED CARD OF 'handfastlaw12.PackTakes'. -/
def packTakesCard : Claim7 := { stood := { row := packTakesRow, standIns := [], harness := (true, "c225708ab7189b0577815aec2124d4830edef80bf85137184b0237c621c90b20"), looks := true }, kinds := [], alts := [], laidByText := true, laidKinds := [.data, .data, .data, .data, .sentinel, .sentinel, .pinned], laidTests := true, laidLooks := .later }
def PackTakesCardSaid : Prop := Claim7.holds Tryz.pinned (.plain (OpenSpec.ofChange packTakesSpec)) packTakesCard

/-- THE TIED CARD OF 'handfastlaw12.PackBack'. -/
def packBackCard : Claim7 := { stood := { row := packBackRow, standIns := [], harness := (true, "c225708ab7189b0577815aec2124d4830edef80bf85137184b0237c621c90b20"), looks := true }, kinds := [], alts := [], laidByText := true, laidKinds := [.data, .data, .data, .data, .sentinel, .sentinel, .pinned], laidTests := true, laidLooks := .later }
def PackBackCardSaid : Prop := Claim7.holds Tryz.pinned (.plain (OpenSpec.ofChange packBackSpec)) packBackCard

/-- THE TIED CARD OF 'handfastlaw19.FrameForms'. -/
def frameFormsCard : Claim7 := { stood := { row := frameFormsRow, standIns := [], harness := (true, "c225708ab7189b0577815aec2124d4830edef80bf85137184b0237c621c90b20"), looks := true }, kinds := [], alts := [], laidByText := true, laidKinds := [.data, .data, .data, .data, .sentinel, .sentinel, .pinned], laidTests := true, laidLooks := .later }
def FrameFormsCardSaid : Prop := Claim7.holds Tryz.pinned (.plain (OpenSpec.ofChange frameFormsSpec)) frameFormsCard

/-- THE TIED CARD OF 'handfastlaw19.FrameErrors'. -/
def frameErrorsCard : Claim7 := { stood := { row := frameErrorsRow, standIns := [], harness := (true, "c225708ab7189b0577815aec2124d4830edef80bf85137184b0237c621c90b20"), looks := true }, kinds := [], alts := [], laidByText := true, laidKinds := [.data, .data, .data, .data, .sentinel, .sentinel, .pinned], laidTests := true, laidLooks := .later }
def FrameErrorsCardSaid : Prop := Claim7.holds Tryz.pinned (.plain (OpenSpec.ofChange frameErrorsSpec)) frameErrorsCard

/-- THE TIED CARD OF 'handfastlaw19.FrameTells'. -/
def frameTellsCard : Claim7 := { stood := { row := frameTellsRow, standIns := [], harness := (true, "c225708ab7189b0577815aec2124d4830edef80bf85137184b0237c621c90b20"), looks := true }, kinds := [], alts := [], laidByText := true, laidKinds := [.data, .data, .data, .data, .sentinel, .sentinel, .pinned], laidTests := true, laidLooks := .later }
def FrameTellsCardSaid : Prop := Claim7.holds Tryz.pinned (.plain (OpenSpec.ofChange frameTellsSpec)) frameTellsCard

/-- THE TIED CARD OF 'handfastlaw19.FrameOpens'. -/
def frameOpensCard : Claim7 := { stood := { row := frameOpensRow, standIns := [], harness := (true, "c225708ab7189b0577815aec2124d4830edef80bf85137184b0237c621c90b20"), looks := true }, kinds := [], alts := [], laidByText := true, laidKinds := [.data, .data, .data, .data, .sentinel, .sentinel, .pinned], laidTests := true, laidLooks := .later }
def FrameOpensCardSaid : Prop := Claim7.holds Tryz.pinned (.plain (OpenSpec.ofChange frameOpensSpec)) frameOpensCard

/-- THE TIED CARD OF 'handfastlaw19.FrameBack'. -/
def frameBackCard : Claim7 := { stood := { row := frameBackRow, standIns := [], harness := (true, "c225708ab7189b0577815aec2124d4830edef80bf85137184b0237c621c90b20"), looks := true }, kinds := [], alts := [], laidByText := true, laidKinds := [.data, .data, .data, .data, .sentinel, .sentinel, .pinned], laidTests := true, laidLooks := .later }
def FrameBackCardSaid : Prop := Claim7.holds Tryz.pinned (.plain (OpenSpec.ofChange frameBackSpec)) frameBackCard

/-- THE SECOND FORM's CARD OF 'handfastlaw12.PackTells'. -/
def packTellsUptoCard : Claim7 := { stood := { row := packTellsUptoRow, standIns := [], harness := (true, "c225708ab7189b0577815aec2124d4830edef80bf85137184b0237c621c90b20"), looks := true }, kinds := [], alts := [], laidByText := true, laidKinds := [.data, .data, .data], laidTests := true, laidLooks := .later }
def PackTellsUptoCardSaid : Prop := Claim7.holds Tryz.pinned (.plain (OpenSpec.upto packTellsSpec)) packTellsUptoCard

/-- THE SECOND FORM's CARD OF 'handfastlaw12.PackTakes'. -/
def packTakesUptoCard : Claim7 := { stood := { row := packTakesUptoRow, standIns := [], harness := (true, "c225708ab7189b0577815aec2124d4830edef80bf85137184b0237c621c90b20"), looks := true }, kinds := [], alts := [], laidByText := true, laidKinds := [.data, .data, .data, .data, .sentinel, .sentinel, .pinned], laidTests := true, laidLooks := .later }
def PackTakesUptoCardSaid : Prop := Claim7.holds Tryz.pinned (.plain (OpenSpec.upto packTakesSpec)) packTakesUptoCard

/-- THE SECOND FORM's CARD OF 'handfastlaw12.PackBack'. -/
def packBackUptoCard : Claim7 := { stood := { row := packBackUptoRow, standIns := [], harness := (true, "c225708ab7189b0577815aec2124d4830edef80bf85137184b0237c621c90b20"), looks := true }, kinds := [], alts := [], laidByText := true, laidKinds := [.data, .data, .data, .data, .sentinel, .sentinel, .pinned], laidTests := true, laidLooks := .later }
def PackBackUptoCardSaid : Prop := Claim7.holds Tryz.pinned (.plain (OpenSpec.upto packBackSpec)) packBackUptoCard

/-- THE SECOND FORM's CARD OF 'handfastlaw19.FrameForms'. -/
def frameFormsUptoCard : Claim7 := { stood := { row := frameFormsUptoRow, standIns := [], harness := (true, "c225708ab7189b0577815aec2124d4830edef80bf85137184b0237c621c90b20"), looks := true }, kinds := [], alts := [], laidByText := true, laidKinds := [.data, .data, .data, .data, .sentinel, .sentinel, .pinned], laidTests := true, laidLooks := .later }
def FrameFormsUptoCardSaid : Prop := Claim7.holds Tryz.pinned (.plain (OpenSpec.upto frameFormsSpec)) frameFormsUptoCard

/-- THE SECOND FORM's CARD OF 'handfastlaw19.FrameErrors'. -/
def frameErrorsUptoCard : Claim7 := { stood := { row := frameErrorsUptoRow, standIns := [], harness := (true, "c225708ab7189b0577815aec2124d4830edef80bf85137184b0237c621c90b20"), looks := true }, kinds := [], alts := [], laidByText := true, laidKinds := [.data, .data, .data, .data, .sentinel, .sentinel, .pinned], laidTests := true, laidLooks := .later }
def FrameErrorsUptoCardSaid : Prop := Claim7.holds Tryz.pinned (.plain (OpenSpec.upto frameErrorsSpec)) frameErrorsUptoCard

/-- THE SECOND FORM's CARD OF 'handfastlaw19.FrameTells'. -/
def frameTellsUptoCard : Claim7 := { stood := { row := frameTellsUptoRow, standIns := [], harness := (true, "c225708ab7189b0577815aec2124d4830edef80bf85137184b0237c621c90b20"), looks := true }, kinds := [], alts := [], laidByText := true, laidKinds := [.data, .data, .data, .data, .sentinel, .sentinel, .pinned], laidTests := true, laidLooks := .later }
def FrameTellsUptoCardSaid : Prop := Claim7.holds Tryz.pinned (.plain (OpenSpec.upto frameTellsSpec)) frameTellsUptoCard

/-- THE SECOND FORM's CARD OF 'handfastlaw19.FrameOpens'. -/
def frameOpensUptoCard : Claim7 := { stood := { row := frameOpensUptoRow, standIns := [], harness := (true, "c225708ab7189b0577815aec2124d4830edef80bf85137184b0237c621c90b20"), looks := true }, kinds := [], alts := [], laidByText := true, laidKinds := [.data, .data, .data, .data, .sentinel, .sentinel, .pinned], laidTests := true, laidLooks := .later }
def FrameOpensUptoCardSaid : Prop := Claim7.holds Tryz.pinned (.plain (OpenSpec.upto frameOpensSpec)) frameOpensUptoCard

/-- THE SECOND FORM's CARD OF 'handfastlaw19.FrameBack'. -/
def frameBackUptoCard : Claim7 := { stood := { row := frameBackUptoRow, standIns := [], harness := (true, "c225708ab7189b0577815aec2124d4830edef80bf85137184b0237c621c90b20"), looks := true }, kinds := [], alts := [], laidByText := true, laidKinds := [.data, .data, .data, .data, .sentinel, .sentinel, .pinned], laidTests := true, laidLooks := .later }
def FrameBackUptoCardSaid : Prop := Claim7.holds Tryz.pinned (.plain (OpenSpec.upto frameBackSpec)) frameBackUptoCard
end Rows
end Go.Proofs.YtbadiokobooliaaGreatDoor
