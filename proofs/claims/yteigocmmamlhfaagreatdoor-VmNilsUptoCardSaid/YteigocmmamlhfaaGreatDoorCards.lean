/-
  DERIVED. GIVEN WITH THE SEED: THE CARDS: each row of YteigocmmamlhfaaGreatDoorRows.lean that lists a variable, with what it lists TIED to the program's text (the seventh form; the later family's looks); each row that meets fmt, with fmt's text TOLD by the authors' own Lean function (tested against real Go, not proved from fmt's source: count such statements apart). THE CARD IS WHAT COUNTS. Prove the row's statement (the work); the ties are given (YteigocmmamlhfaaGreatDoorTie.lean); close each card by the builder's one call (the guide's Derived/Test/ToyasCard.lean, 'card_holds'). Laid BY PROGRAM, IN A SANDBOX (cutbox-door.mjs). By AI agents, Wed Nov 11 2026. No macro, syntax, notation, axiom, sorry.
-/
import Derived.Test.YteigocmmamlhfaaGreatDoorRows
import GoSem.ClaimSeven
namespace Go.Proofs.YteigocmmamlhfaaGreatDoor
namespace Rows

/-- THE TIED CARD OF 'stencillaw23.VmNils'. -/
def vmNilsCard : Claim7 := { stood := { row := vmNilsRow, standIns := [], harness := (true, "ef9eca3cf9dc1c797a7bba48614f2bcc8241c41f40bb9ed91fb8e87187cc89b9"), looks := true }, kinds := [], alts := [], laidByText := true, laidKinds := [.data, .data, .data, .data, .pinned], laidTests := true, laidLooks := .later }
def VmNilsCardSaid : Prop := Claim7.holds Tryz.pinned (.plain (OpenSpec.ofChange vmNilsSpec)) vmNilsCard

/-- THE SECOND FORM's CARD OF 'stencillaw23.VmNils'. -/
def vmNilsUptoCard : Claim7 := { stood := { row := vmNilsUptoRow, standIns := [], harness := (true, "ef9eca3cf9dc1c797a7bba48614f2bcc8241c41f40bb9ed91fb8e87187cc89b9"), looks := true }, kinds := [], alts := [], laidByText := true, laidKinds := [.data, .data, .data, .data, .pinned], laidTests := true, laidLooks := .later }
def VmNilsUptoCardSaid : Prop := Claim7.holds Tryz.pinned (.plain (OpenSpec.upto vmNilsSpec)) vmNilsUptoCard
end Rows
end Go.Proofs.YteigocmmamlhfaaGreatDoor
