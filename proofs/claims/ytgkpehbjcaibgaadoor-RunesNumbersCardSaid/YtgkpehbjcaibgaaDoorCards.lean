/-
  DERIVED. GIVEN WITH THE SEED: THE CARDS: each row of YtgkpehbjcaibgaaDoorRows.lean that lists a variable, with what it lists TIED to the program's text (the seventh form; the later family's looks); each row that meets fmt, with fmt's text TOLD by the authors' own Lean function (tested against real Go, not proved from fmt's source: count such statements apart). THE CARD IS WHAT COUNTS. Prove the row's statement (the work); the ties are given (YtgkpehbjcaibgaaDoorTie.lean); close each card by the builder's one call (the guide's Derived/Test/ToyasCard.lean, 'card_holds'). Laid BY PROGRAM, IN A SANDBOX (cutbox-door.mjs). By AI agents, Wed Nov 11 2026. No macro, syntax, notation, axiom, sorry.
-/
import Derived.Test.YtgkpehbjcaibgaaDoorRows
import GoSem.ClaimSeven
namespace Go.Proofs.YtgkpehbjcaibgaaDoor
namespace Rows

/-- THE TIED CARD OF 'handfastlaw12.PackNumbers'. -/
def packNumbersCard : Claim7 := { stood := { row := packNumbersRow, standIns := [], harness := (true, "081e51f1ca207495e4fe9aa4ce6452a051713437e33c21f6f65feadb47528164"), looks := true }, kinds := [], alts := [], laidByText := true, laidKinds := [.data, .data, .data], laidTests := true, laidLooks := .later }
def PackNumbersCardSaid : Prop := Claim7.holds Tryd.pinned (.plain (OpenSpec.ofChange packNumbersSpec)) packNumbersCard

/-- THE TIED CARD OF 'handfastlaw01.RunesNumbers'. -/
def runesNumbersCard : Claim7 := { stood := { row := runesNumbersRow, standIns := [], harness := (true, "081e51f1ca207495e4fe9aa4ce6452a051713437e33c21f6f65feadb47528164"), looks := true }, kinds := [], alts := [], laidByText := true, laidKinds := [.data, .data, .data, .data, .sentinel, .sentinel, .pinned], laidTests := true, laidLooks := .later }
def RunesNumbersCardSaid : Prop := Claim7.holds Tryd.pinned (.plain (OpenSpec.ofChange runesNumbersSpec)) runesNumbersCard

/-- THE TIED CARD OF 'handfastlaw01.RunesTell'. -/
def runesTellCard : Claim7 := { stood := { row := runesTellRow, standIns := [], harness := (true, "081e51f1ca207495e4fe9aa4ce6452a051713437e33c21f6f65feadb47528164"), looks := true }, kinds := [], alts := [], laidByText := true, laidKinds := [.data, .data, .data, .data, .sentinel, .sentinel, .pinned], laidTests := true, laidLooks := .later }
def RunesTellCardSaid : Prop := Claim7.holds Tryd.pinned (.plain (OpenSpec.ofChange runesTellSpec)) runesTellCard

/-- THE SECOND FORM's CARD OF 'handfastlaw12.PackNumbers'. -/
def packNumbersUptoCard : Claim7 := { stood := { row := packNumbersUptoRow, standIns := [], harness := (true, "081e51f1ca207495e4fe9aa4ce6452a051713437e33c21f6f65feadb47528164"), looks := true }, kinds := [], alts := [], laidByText := true, laidKinds := [.data, .data, .data], laidTests := true, laidLooks := .later }
def PackNumbersUptoCardSaid : Prop := Claim7.holds Tryd.pinned (.plain (OpenSpec.upto packNumbersSpec)) packNumbersUptoCard

/-- THE SECOND FORM's CARD OF 'handfastlaw01.RunesNumbers'. -/
def runesNumbersUptoCard : Claim7 := { stood := { row := runesNumbersUptoRow, standIns := [], harness := (true, "081e51f1ca207495e4fe9aa4ce6452a051713437e33c21f6f65feadb47528164"), looks := true }, kinds := [], alts := [], laidByText := true, laidKinds := [.data, .data, .data, .data, .sentinel, .sentinel, .pinned], laidTests := true, laidLooks := .later }
def RunesNumbersUptoCardSaid : Prop := Claim7.holds Tryd.pinned (.plain (OpenSpec.upto runesNumbersSpec)) runesNumbersUptoCard

/-- THE SECOND FORM's CARD OF 'handfastlaw01.RunesTell'. -/
def runesTellUptoCard : Claim7 := { stood := { row := runesTellUptoRow, standIns := [], harness := (true, "081e51f1ca207495e4fe9aa4ce6452a051713437e33c21f6f65feadb47528164"), looks := true }, kinds := [], alts := [], laidByText := true, laidKinds := [.data, .data, .data, .data, .sentinel, .sentinel, .pinned], laidTests := true, laidLooks := .later }
def RunesTellUptoCardSaid : Prop := Claim7.holds Tryd.pinned (.plain (OpenSpec.upto runesTellSpec)) runesTellUptoCard
end Rows
end Go.Proofs.YtgkpehbjcaibgaaDoor
