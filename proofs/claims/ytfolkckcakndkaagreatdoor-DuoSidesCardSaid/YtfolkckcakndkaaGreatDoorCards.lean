/-
  DERIVED. GIVEN WITH THE SEED: THE CARDS: each row of YtfolkckcakndkaaGreatDoorRows.lean that lists a variable, with what it lists TIED to the program's text (the seventh form; the later family's looks); each row that meets fmt, with fmt's text TOLD by the authors' own Lean function (tested against real Go, not proved from fmt's source: count such statements apart). THE CARD IS WHAT COUNTS. Prove the row's statement (the work); the ties are given (YtfolkckcakndkaaGreatDoorTie.lean); close each card by the builder's one call (the guide's Derived/Test/ToyasCard.lean, 'card_holds'). Laid BY PROGRAM, IN A SANDBOX (cutbox-door.mjs). By AI agents, Wed Nov 11 2026. No macro, syntax, notation, axiom, sorry.
-/
import Derived.Test.YtfolkckcakndkaaGreatDoorRows
import GoSem.ClaimSeven
namespace Go.Proofs.YtfolkckcakndkaaGreatDoor
namespace Rows

/-- THE TIED CARD OF 'handfastlaw23.DuoLost'. -/
def duoLostCard : Claim7 := { stood := { row := duoLostRow, standIns := [], harness := (true, "9c4f989f1ab453831d4c4c37e1b85f7672ba47ea99a03ba4002c22abe235cc92"), looks := true }, kinds := [], alts := [], laidByText := true, laidKinds := [.data, .data, .data, .data, .sentinel, .sentinel, .pinned], laidTests := true, laidLooks := .later }
def DuoLostCardSaid : Prop := Claim7.holds Tryz.pinned (.plain (OpenSpec.ofChange duoLostSpec)) duoLostCard

/-- THE TIED CARD OF 'handfastlaw23.DuoRounds'. -/
def duoRoundsCard : Claim7 := { stood := { row := duoRoundsRow, standIns := [], harness := (true, "9c4f989f1ab453831d4c4c37e1b85f7672ba47ea99a03ba4002c22abe235cc92"), looks := true }, kinds := [], alts := [], laidByText := true, laidKinds := [.data, .data, .data, .data, .sentinel, .sentinel, .pinned], laidTests := true, laidLooks := .later }
def DuoRoundsCardSaid : Prop := Claim7.holds Tryz.pinned (.plain (OpenSpec.ofChange duoRoundsSpec)) duoRoundsCard

/-- THE TIED CARD OF 'handfastlaw23.DuoRefuses'. -/
def duoRefusesCard : Claim7 := { stood := { row := duoRefusesRow, standIns := [], harness := (true, "9c4f989f1ab453831d4c4c37e1b85f7672ba47ea99a03ba4002c22abe235cc92"), looks := true }, kinds := [], alts := [], laidByText := true, laidKinds := [.data, .data, .data, .data, .sentinel, .sentinel, .pinned], laidTests := true, laidLooks := .later }
def DuoRefusesCardSaid : Prop := Claim7.holds Tryz.pinned (.plain (OpenSpec.ofChange duoRefusesSpec)) duoRefusesCard

/-- THE TIED CARD OF 'handfastlaw23.DuoSides'. -/
def duoSidesCard : Claim7 := { stood := { row := duoSidesRow, standIns := [], harness := (true, "9c4f989f1ab453831d4c4c37e1b85f7672ba47ea99a03ba4002c22abe235cc92"), looks := true }, kinds := [], alts := [], laidByText := true, laidKinds := [.data, .data, .data, .data, .sentinel, .sentinel, .pinned], laidTests := true, laidLooks := .later }
def DuoSidesCardSaid : Prop := Claim7.holds Tryz.pinned (.plain (OpenSpec.ofChange duoSidesSpec)) duoSidesCard

/-- THE SECOND FORM's CARD OF 'handfastlaw23.DuoLost'. -/
def duoLostUptoCard : Claim7 := { stood := { row := duoLostUptoRow, standIns := [], harness := (true, "9c4f989f1ab453831d4c4c37e1b85f7672ba47ea99a03ba4002c22abe235cc92"), looks := true }, kinds := [], alts := [], laidByText := true, laidKinds := [.data, .data, .data, .data, .sentinel, .sentinel, .pinned], laidTests := true, laidLooks := .later }
def DuoLostUptoCardSaid : Prop := Claim7.holds Tryz.pinned (.plain (OpenSpec.upto duoLostSpec)) duoLostUptoCard

/-- THE SECOND FORM's CARD OF 'handfastlaw23.DuoRounds'. -/
def duoRoundsUptoCard : Claim7 := { stood := { row := duoRoundsUptoRow, standIns := [], harness := (true, "9c4f989f1ab453831d4c4c37e1b85f7672ba47ea99a03ba4002c22abe235cc92"), looks := true }, kinds := [], alts := [], laidByText := true, laidKinds := [.data, .data, .data, .data, .sentinel, .sentinel, .pinned], laidTests := true, laidLooks := .later }
def DuoRoundsUptoCardSaid : Prop := Claim7.holds Tryz.pinned (.plain (OpenSpec.upto duoRoundsSpec)) duoRoundsUptoCard

/-- THE SECOND FORM's CARD OF 'handfastlaw23.DuoRefuses'. -/
def duoRefusesUptoCard : Claim7 := { stood := { row := duoRefusesUptoRow, standIns := [], harness := (true, "9c4f989f1ab453831d4c4c37e1b85f7672ba47ea99a03ba4002c22abe235cc92"), looks := true }, kinds := [], alts := [], laidByText := true, laidKinds := [.data, .data, .data, .data, .sentinel, .sentinel, .pinned], laidTests := true, laidLooks := .later }
def DuoRefusesUptoCardSaid : Prop := Claim7.holds Tryz.pinned (.plain (OpenSpec.upto duoRefusesSpec)) duoRefusesUptoCard

/-- THE SECOND FORM's CARD OF 'handfastlaw23.DuoSides'. -/
def duoSidesUptoCard : Claim7 := { stood := { row := duoSidesUptoRow, standIns := [], harness := (true, "9c4f989f1ab453831d4c4c37e1b85f7672ba47ea99a03ba4002c22abe235cc92"), looks := true }, kinds := [], alts := [], laidByText := true, laidKinds := [.data, .data, .data, .data, .sentinel, .sentinel, .pinned], laidTests := true, laidLooks := .later }
def DuoSidesUptoCardSaid : Prop := Claim7.holds Tryz.pinned (.plain (OpenSpec.upto duoSidesSpec)) duoSidesUptoCard
end Rows
end Go.Proofs.YtfolkckcakndkaaGreatDoor
