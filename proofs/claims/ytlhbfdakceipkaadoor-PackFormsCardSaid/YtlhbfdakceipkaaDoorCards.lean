/-
  DERIVED. GIVEN WITH THE SEED: THE CARDS: each row of YtlhbfdakceipkaaDoorRows.lean that lists a variable, with what it lists TIED to the program's text (the seventh form; the later family's looks); each row that meets fmt, with fmt's text TOLD by the authors' own Lean function (tested against real Go, not proved from fmt's source: count such statements apart). THE CARD IS WHAT COUNTS. Prove the row's statement (the work); the ties are given (YtlhbfdakceipkaaDoorTie.lean); close each card by the builder's one call (the guide's Derived/Test/ToyasCard.lean, 'card_holds'). Laid BY PROGRAM, IN A SANDBOX (cutbox-door.mjs). By AI agents, Wed Nov 11 2026. No macro, syntax, notation, axiom, sorry.
-/
import Derived.Test.YtlhbfdakceipkaaDoorRows
import GoSem.ClaimSeven
namespace Go.Proofs.YtlhbfdakceipkaaDoor
namespace Rows

/-- THE TIED CARD OF 'handfastlaw12.PackNumbers'. -/
def packNumbersCard : Claim7 := { stood := { row := packNumbersRow, standIns := [], harness := (true, "c36c9184f58bb14e3ff9a7e3d17dd66a7264acafd5aa78158fa05f6c44a917f7"), looks := true }, kinds := [], alts := [], laidByText := true, laidKinds := [.data, .data, .data], laidTests := true, laidLooks := .later }
def PackNumbersCardSaid : Prop := Claim7.holds Tryd.pinned (.plain (OpenSpec.ofChange packNumbersSpec)) packNumbersCard

/-- THE TIED CARD OF 'handfastlaw12.PackForms'. -/
def packFormsCard : Claim7 := { stood := { row := packFormsRow, standIns := [], harness := (true, "c36c9184f58bb14e3ff9a7e3d17dd66a7264acafd5aa78158fa05f6c44a917f7"), looks := true }, kinds := [], alts := [], laidByText := true, laidKinds := [.data, .data, .data], laidTests := true, laidLooks := .later }
def PackFormsCardSaid : Prop := Claim7.holds Tryd.pinned (.plain (OpenSpec.ofChange packFormsSpec)) packFormsCard

/-- THE SECOND FORM's CARD OF 'handfastlaw12.PackNumbers'. -/
def packNumbersUptoCard : Claim7 := { stood := { row := packNumbersUptoRow, standIns := [], harness := (true, "c36c9184f58bb14e3ff9a7e3d17dd66a7264acafd5aa78158fa05f6c44a917f7"), looks := true }, kinds := [], alts := [], laidByText := true, laidKinds := [.data, .data, .data], laidTests := true, laidLooks := .later }
def PackNumbersUptoCardSaid : Prop := Claim7.holds Tryd.pinned (.plain (OpenSpec.upto packNumbersSpec)) packNumbersUptoCard

/-- THE SECOND FORM's CARD OF 'handfastlaw12.PackForms'. -/
def packFormsUptoCard : Claim7 := { stood := { row := packFormsUptoRow, standIns := [], harness := (true, "c36c9184f58bb14e3ff9a7e3d17dd66a7264acafd5aa78158fa05f6c44a917f7"), looks := true }, kinds := [], alts := [], laidByText := true, laidKinds := [.data, .data, .data], laidTests := true, laidLooks := .later }
def PackFormsUptoCardSaid : Prop := Claim7.holds Tryd.pinned (.plain (OpenSpec.upto packFormsSpec)) packFormsUptoCard
end Rows
end Go.Proofs.YtlhbfdakceipkaaDoor
