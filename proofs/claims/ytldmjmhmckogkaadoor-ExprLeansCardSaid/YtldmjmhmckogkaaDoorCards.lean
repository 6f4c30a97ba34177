/-
  DERIVED. GIVEN WITH THE SEED: THE CARDS: each row of YtldmjmhmckogkaaDoorRows.lean that lists a variable, with what it lists TIED to the program's text (the seventh form; the later family's looks); each row that meets fmt, with fmt's text TOLD by the authors' own Lean function (tested against real Go, not proved from fmt's source: count such statements apart). THE CARD IS WHAT COUNTS. Prove the row's statement (the work); the ties are given (YtldmjmhmckogkaaDoorTie.lean); close each card by the builder's one call (the guide's Derived/Test/ToyasCard.lean, 'card_holds'). Laid BY PROGRAM, IN A SANDBOX (cutbox-door.mjs). By AI agents, Wed Nov 11 2026. No macro, syntax, notation, axiom, sorry.
-/
import Derived.Test.YtldmjmhmckogkaaDoorRows
import GoSem.ClaimSeven
namespace Go.Proofs.YtldmjmhmckogkaaDoor
namespace Rows

/-- THE TIED CARD OF 'stencillaw10.ExprBack'. -/
def exprBackCard : Claim7 := { stood := { row := exprBackRow, standIns := [], harness := (true, "03002b28fc8788022288fd6d7c15cd3869e98b58d559c2684478b8d3671cc0fe"), looks := true }, kinds := [], alts := [], laidByText := true, laidKinds := [.data, .data, .data, .data, .sentinel, .sentinel, .listed, .data, .pinned], laidTests := true, laidLooks := .later }
def ExprBackCardSaid : Prop := Claim7.holds Tryd.pinned (.plain (OpenSpec.ofChange exprBackSpec)) exprBackCard

/-- THE TIED CARD OF 'stencillaw10.ExprForms'. -/
def exprFormsCard : Claim7 := { stood := { row := exprFormsRow, standIns := [], harness := (true, "03002b28fc8788022288fd6d7c15cd3869e98b58d559c2684478b8d3671cc0fe"), looks := true }, kinds := [], alts := [], laidByText := true, laidKinds := [.data, .data, .data, .data, .sentinel, .sentinel, .listed, .data, .pinned], laidTests := true, laidLooks := .later }
def ExprFormsCardSaid : Prop := Claim7.holds Tryd.pinned (.plain (OpenSpec.ofChange exprFormsSpec)) exprFormsCard

/-- THE TIED CARD OF 'stencillaw10.ExprLeans'. -/
def exprLeansCard : Claim7 := { stood := { row := exprLeansRow, standIns := [], harness := (true, "03002b28fc8788022288fd6d7c15cd3869e98b58d559c2684478b8d3671cc0fe"), looks := true }, kinds := [], alts := [], laidByText := true, laidKinds := [.data, .data, .data, .data, .sentinel, .sentinel, .listed, .data, .pinned], laidTests := true, laidLooks := .later }
def ExprLeansCardSaid : Prop := Claim7.holds Tryd.pinned (.plain (OpenSpec.ofChange exprLeansSpec)) exprLeansCard

/-- THE TIED CARD OF 'stencillaw10.ExprNests'. -/
def exprNestsCard : Claim7 := { stood := { row := exprNestsRow, standIns := [], harness := (true, "03002b28fc8788022288fd6d7c15cd3869e98b58d559c2684478b8d3671cc0fe"), looks := true }, kinds := [], alts := [], laidByText := true, laidKinds := [.data, .data, .data, .data, .sentinel, .sentinel, .listed, .data, .pinned], laidTests := true, laidLooks := .later }
def ExprNestsCardSaid : Prop := Claim7.holds Tryd.pinned (.plain (OpenSpec.ofChange exprNestsSpec)) exprNestsCard

/-- THE SECOND FORM's CARD OF 'stencillaw10.ExprBack'. -/
def exprBackUptoCard : Claim7 := { stood := { row := exprBackUptoRow, standIns := [], harness := (true, "03002b28fc8788022288fd6d7c15cd3869e98b58d559c2684478b8d3671cc0fe"), looks := true }, kinds := [], alts := [], laidByText := true, laidKinds := [.data, .data, .data, .data, .sentinel, .sentinel, .listed, .data, .pinned], laidTests := true, laidLooks := .later }
def ExprBackUptoCardSaid : Prop := Claim7.holds Tryd.pinned (.plain (OpenSpec.upto exprBackSpec)) exprBackUptoCard

/-- THE SECOND FORM's CARD OF 'stencillaw10.ExprForms'. -/
def exprFormsUptoCard : Claim7 := { stood := { row := exprFormsUptoRow, standIns := [], harness := (true, "03002b28fc8788022288fd6d7c15cd3869e98b58d559c2684478b8d3671cc0fe"), looks := true }, kinds := [], alts := [], laidByText := true, laidKinds := [.data, .data, .data, .data, .sentinel, .sentinel, .listed, .data, .pinned], laidTests := true, laidLooks := .later }
def ExprFormsUptoCardSaid : Prop := Claim7.holds Tryd.pinned (.plain (OpenSpec.upto exprFormsSpec)) exprFormsUptoCard

/-- THE SECOND FORM's CARD OF 'stencillaw10.ExprLeans'. -/
def exprLeansUptoCard : Claim7 := { stood := { row := exprLeansUptoRow, standIns := [], harness := (true, "03002b28fc8788022288fd6d7c15cd3869e98b58d559c2684478b8d3671cc0fe"), looks := true }, kinds := [], alts := [], laidByText := true, laidKinds := [.data, .data, .data, .data, .sentinel, .sentinel, .listed, .data, .pinned], laidTests := true, laidLooks := .later }
def ExprLeansUptoCardSaid : Prop := Claim7.holds Tryd.pinned (.plain (OpenSpec.upto exprLeansSpec)) exprLeansUptoCard

/-- THE SECOND FORM's CARD OF 'stencillaw10.ExprNests'. -/
def exprNestsUptoCard : Claim7 := { stood := { row := exprNestsUptoRow, standIns := [], harness := (true, "03002b28fc8788022288fd6d7c15cd3869e98b58d559c2684478b8d3671cc0fe"), looks := true }, kinds := [], alts := [], laidByText := true, laidKinds := [.data, .data, .data, .data, .sentinel, .sentinel, .listed, .data, .pinned], laidTests := true, laidLooks := .later }
def ExprNestsUptoCardSaid : Prop := Claim7.holds Tryd.pinned (.plain (OpenSpec.upto exprNestsSpec)) exprNestsUptoCard
end Rows
end Go.Proofs.YtldmjmhmckogkaaDoor
