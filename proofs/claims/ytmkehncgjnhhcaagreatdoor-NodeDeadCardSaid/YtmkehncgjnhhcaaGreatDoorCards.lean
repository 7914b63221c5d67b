/-
  DERIVED. GIVEN WITH THE SEED: THE CARDS: each row of YtmkehncgjnhhcaaGreatDoorRows.lean that lists a variable, with what it lists TIED to the program's text (the seventh form; the later family's looks); each row that meets fmt, with fmt's text TOLD by the authors' own Lean function (tested against real Go, not proved from fmt's source: count such statements apart). THE CARD IS WHAT COUNTS. Prove the row's statement (the work); the ties are given (YtmkehncgjnhhcaaGreatDoorTie.lean); close each card by the builder's one call (the guide's Derived/Test/ToyasCard.lean, 'card_holds'). Laid BY PROGRAM, IN A SANDBOX (cutbox-door.mjs). By AI agents, Wed Nov 11 2026. No macro, syntax, notation, axiom, sorry.
-/
import Derived.Test.YtmkehncgjnhhcaaGreatDoorRows
import GoSem.ClaimSeven
namespace Go.Proofs.YtmkehncgjnhhcaaGreatDoor
namespace Rows

/-- THE TIED CARD OF 'handfastlaw22.NodeLives'. -/
def nodeLivesCard : Claim7 := { stood := { row := nodeLivesRow, standIns := [], harness := (true, "85a04f2cafe2d78aee3c360235ff82999f782ccb65595736896767df3eb34a25"), looks := true }, kinds := [], alts := [], laidByText := true, laidKinds := [.data, .data, .data, .data, .sentinel, .sentinel, .pinned], laidTests := true, laidLooks := .later }
def NodeLivesCardSaid : Prop := Claim7.holds Tryz.pinned (.plain (OpenSpec.ofChange nodeLivesSpec)) nodeLivesCard

/-- THE TIED CARD OF 'handfastlaw22.NodeJunk'. -/
def nodeJunkCard : Claim7 := { stood := { row := nodeJunkRow, standIns := [], harness := (true, "85a04f2cafe2d78aee3c360235ff82999f782ccb65595736896767df3eb34a25"), looks := true }, kinds := [], alts := [], laidByText := true, laidKinds := [.data, .data, .data, .data, .sentinel, .sentinel, .pinned], laidTests := true, laidLooks := .later }
def NodeJunkCardSaid : Prop := Claim7.holds Tryz.pinned (.plain (OpenSpec.ofChange nodeJunkSpec)) nodeJunkCard

/-- THE TIED CARD OF 'handfastlaw22.NodeFull'. -/
def nodeFullCard : Claim7 := { stood := { row := nodeFullRow, standIns := [], harness := (true, "85a04f2cafe2d78aee3c360235ff82999f782ccb65595736896767df3eb34a25"), looks := true }, kinds := [], alts := [], laidByText := true, laidKinds := [.data, .data, .data, .data, .sentinel, .sentinel, .pinned], laidTests := true, laidLooks := .later }
def NodeFullCardSaid : Prop := Claim7.holds Tryz.pinned (.plain (OpenSpec.ofChange nodeFullSpec)) nodeFullCard

/-- THE TIED CARD OF 'handfastlaw22.NodeDead'. -/
def nodeDeadCard : Claim7 := { stood := { row := nodeDeadRow, standIns := [], harness := (true, "85a04f2cafe2d78aee3c360235ff82999f782ccb65595736896767df3eb34a25"), looks := true }, kinds := [], alts := [], laidByText := true, laidKinds := [.data, .data, .data, .data, .sentinel, .sentinel, .pinned], laidTests := true, laidLooks := .later }
def NodeDeadCardSaid : Prop := Claim7.holds Tryz.pinned (.plain (OpenSpec.ofChange nodeDeadSpec)) nodeDeadCard

/-- THE TIED CARD OF 'handfastlaw22.NodeKeeps'. -/
def nodeKeepsCard : Claim7 := { stood := { row := nodeKeepsRow, standIns := [], harness := (true, "85a04f2cafe2d78aee3c360235ff82999f782ccb65595736896767df3eb34a25"), looks := true }, kinds := [], alts := [], laidByText := true, laidKinds := [.data, .data, .data, .data, .sentinel, .sentinel, .pinned], laidTests := true, laidLooks := .later }
def NodeKeepsCardSaid : Prop := Claim7.holds Tryz.pinned (.plain (OpenSpec.ofChange nodeKeepsSpec)) nodeKeepsCard

/-- THE SECOND FORM's CARD OF 'handfastlaw22.NodeLives'. -/
def nodeLivesUptoCard : Claim7 := { stood := { row := nodeLivesUptoRow, standIns := [], harness := (true, "85a04f2cafe2d78aee3c360235ff82999f782ccb65595736896767df3eb34a25"), looks := true }, kinds := [], alts := [], laidByText := true, laidKinds := [.data, .data, .data, .data, .sentinel, .sentinel, .pinned], laidTests := true, laidLooks := .later }
def NodeLivesUptoCardSaid : Prop := Claim7.holds Tryz.pinned (.plain (OpenSpec.upto nodeLivesSpec)) nodeLivesUptoCard

/-- THE SECOND FORM's CARD OF 'handfastlaw22.NodeJunk'. -/
def nodeJunkUptoCard : Claim7 := { stood := { row := nodeJunkUptoRow, standIns := [], harness := (true, "85a04f2cafe2d78aee3c360235ff82999f782ccb65595736896767df3eb34a25"), looks := true }, kinds := [], alts := [], laidByText := true, laidKinds := [.data, .data, .data, .data, .sentinel, .sentinel, .pinned], laidTests := true, laidLooks := .later }
def NodeJunkUptoCardSaid : Prop := Claim7.holds Tryz.pinned (.plain (OpenSpec.upto nodeJunkSpec)) nodeJunkUptoCard

/-- THE SECOND FORM's CARD OF 'handfastlaw22.NodeFull'. -/
def nodeFullUptoCard : Claim7 := { stood := { row := nodeFullUptoRow, standIns := [], harness := (true, "85a04f2cafe2d78aee3c360235ff82999f782ccb65595736896767df3eb34a25"), looks := true }, kinds := [], alts := [], laidByText := true, laidKinds := [.data, .data, .data, .data, .sentinel, .sentinel, .pinned], laidTests := true, laidLooks := .later }
def NodeFullUptoCardSaid : Prop := Claim7.holds Tryz.pinned (.plain (OpenSpec.upto nodeFullSpec)) nodeFullUptoCard

/-- THE SECOND FORM's CARD OF 'handfastlaw22.NodeDead'. -/
def nodeDeadUptoCard : Claim7 := { stood := { row := nodeDeadUptoRow, standIns := [], harness := (true, "85a04f2cafe2d78aee3c360235ff82999f782ccb65595736896767df3eb34a25"), looks := true }, kinds := [], alts := [], laidByText := true, laidKinds := [.data, .data, .data, .data, .sentinel, .sentinel, .pinned], laidTests := true, laidLooks := .later }
def NodeDeadUptoCardSaid : Prop := Claim7.holds Tryz.pinned (.plain (OpenSpec.upto nodeDeadSpec)) nodeDeadUptoCard

/-- THE SECOND FORM's CARD OF 'handfastlaw22.NodeKeeps'. -/
def nodeKeepsUptoCard : Claim7 := { stood := { row := nodeKeepsUptoRow, standIns := [], harness := (true, "85a04f2cafe2d78aee3c360235ff82999f782ccb65595736896767df3eb34a25"), looks := true }, kinds := [], alts := [], laidByText := true, laidKinds := [.data, .data, .data, .data, .sentinel, .sentinel, .pinned], laidTests := true, laidLooks := .later }
def NodeKeepsUptoCardSaid : Prop := Claim7.holds Tryz.pinned (.plain (OpenSpec.upto nodeKeepsSpec)) nodeKeepsUptoCard
end Rows
end Go.Proofs.YtmkehncgjnhhcaaGreatDoor
