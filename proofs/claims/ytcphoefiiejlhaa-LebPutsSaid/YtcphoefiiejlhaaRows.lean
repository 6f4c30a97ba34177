/-
  No cell of these rows narrows 'for every input' (looked for: loops, veiled, ifaces, maps, wideKeys, modest, calm, conditions, laid).
  DERIVED. THE GIVEN ROWS OF THIS SEAT. 5 by the template 'for every input the law returns true; each argument reads behind the call as it read before'; 0 by the template 'total and deterministic' (their statements: YtcphoefiiejlhaaTotals.lean).
  GIVEN WITH THE SEED: the statements are not yours to turn. If you find one false, say at which input.
  Laid BY PROGRAM, IN A SANDBOX (cutbox-rows.mjs): the forced cells as the released guide's own fill.sh prints them over the translation b945a5e41e93e974… (all of the seat's roots in one cut). By AI agents, Wed Nov 11 2026. No macro, syntax, notation, axiom, sorry.
-/
import Derived.Test.YtcphoefiiejlhaaChecked
import GoSem.Claim
import GoSem.ClaimJoined
import GoSem.ClaimMapViews
import Derived.JoinedTies
import Derived.KernelRfl
namespace Go.Proofs.Ytcphoefiiejlhaa
/- THE CELL 'sum', in the pinned program and in every row, IS THE sha256 OF THE DUMP (.gsa) THAT YtcphoefiiejlhaaProg.lean LOADS. Nothing in Lean hashes anything: it is a label: what it is worth is what the hold of that sum in a sandbox is worth. -/
noncomputable def Try.pinned : Pinned := { name := "ytcphoefiiejlhaa", sum := "b945a5e41e93e97483f81ca7739f526a97852ad6052c9ac0e043b4ca4c99a50b", checked := Try.checked }
namespace Rows
def none {H : Type} : Left H := { results := [], args := [] }

/-- 'stencillaw0.StencilNames': WHATEVER THE INPUT: true; the input reads as it did. -/
def stencilNamesSpec : ChangeSpec := { name := "stencilNames", fn := fun _ => fun
  | [] => { results := [.lit (.bool true)], args := [] }
  | _ => none }
def stencilNamesRow : OpenClaim := { program := "ytcphoefiiejlhaa", sum := "b945a5e41e93e97483f81ca7739f526a97852ad6052c9ac0e043b4ca4c99a50b", func := "stencil/stencillaw0.StencilNames", spec := "stencilNames", apart := false }
def StencilNamesSaid : Prop := stencilNamesRow.holds Try.pinned (OpenSpec.ofChange stencilNamesSpec)

/-- ITS FALSE NEIGHBOUR: 'it returns false'. Refute it at one input. -/
def stencilNamesWrong : ChangeSpec := { name := "stencilNames", fn := fun _ => fun
  | [] => { results := [.lit (.bool false)], args := [] }
  | _ => none }
def StencilNamesWrongFalsely : Prop := stencilNamesRow.holds Try.pinned (OpenSpec.ofChange stencilNamesWrong)

/-- 'stencillaw2.LebPuts': WHATEVER THE INPUT: true; the input reads as it did. -/
def lebPutsSpec : ChangeSpec := { name := "lebPuts", fn := fun _ => fun
  | [d1, d2] => { results := [.lit (.bool true)], args := [d1, d2] }
  | _ => none }
def lebPutsRow : OpenClaim := { program := "ytcphoefiiejlhaa", sum := "b945a5e41e93e97483f81ca7739f526a97852ad6052c9ac0e043b4ca4c99a50b", func := "stencil/stencillaw2.LebPuts", spec := "lebPuts", apart := false }
def LebPutsSaid : Prop := lebPutsRow.holds Try.pinned (OpenSpec.ofChange lebPutsSpec)

/-- ITS FALSE NEIGHBOUR: 'it returns false'. Refute it at one input. -/
def lebPutsWrong : ChangeSpec := { name := "lebPuts", fn := fun _ => fun
  | [d1, d2] => { results := [.lit (.bool false)], args := [d1, d2] }
  | _ => none }
def LebPutsWrongFalsely : Prop := lebPutsRow.holds Try.pinned (OpenSpec.ofChange lebPutsWrong)

/-- 'stencillaw2.LebTakes': WHATEVER THE INPUT: true; the input reads as it did. -/
def lebTakesSpec : ChangeSpec := { name := "lebTakes", fn := fun _ => fun
  | [d1, d2] => { results := [.lit (.bool true)], args := [d1, d2] }
  | _ => none }
def lebTakesRow : OpenClaim := { program := "ytcphoefiiejlhaa", sum := "b945a5e41e93e97483f81ca7739f526a97852ad6052c9ac0e043b4ca4c99a50b", func := "stencil/stencillaw2.LebTakes", spec := "lebTakes", apart := false }
def LebTakesSaid : Prop := lebTakesRow.holds Try.pinned (OpenSpec.ofChange lebTakesSpec)

/-- ITS FALSE NEIGHBOUR: 'it returns false'. Refute it at one input. -/
def lebTakesWrong : ChangeSpec := { name := "lebTakes", fn := fun _ => fun
  | [d1, d2] => { results := [.lit (.bool false)], args := [d1, d2] }
  | _ => none }
def LebTakesWrongFalsely : Prop := lebTakesRow.holds Try.pinned (OpenSpec.ofChange lebTakesWrong)

/-- 'stencillaw2.LebForms': WHATEVER THE INPUT: true; the input reads as it did. -/
def lebFormsSpec : ChangeSpec := { name := "lebForms", fn := fun _ => fun
  | [d1, d2] => { results := [.lit (.bool true)], args := [d1, d2] }
  | _ => none }
def lebFormsRow : OpenClaim := { program := "ytcphoefiiejlhaa", sum := "b945a5e41e93e97483f81ca7739f526a97852ad6052c9ac0e043b4ca4c99a50b", func := "stencil/stencillaw2.LebForms", spec := "lebForms", apart := false }
def LebFormsSaid : Prop := lebFormsRow.holds Try.pinned (OpenSpec.ofChange lebFormsSpec)

/-- ITS FALSE NEIGHBOUR: 'it returns false'. Refute it at one input. -/
def lebFormsWrong : ChangeSpec := { name := "lebForms", fn := fun _ => fun
  | [d1, d2] => { results := [.lit (.bool false)], args := [d1, d2] }
  | _ => none }
def LebFormsWrongFalsely : Prop := lebFormsRow.holds Try.pinned (OpenSpec.ofChange lebFormsWrong)

/-- 'stencillaw2.LebOrders': WHATEVER THE INPUT: true; the input reads as it did. -/
def lebOrdersSpec : ChangeSpec := { name := "lebOrders", fn := fun _ => fun
  | [d1, d2, d3] => { results := [.lit (.bool true)], args := [d1, d2, d3] }
  | _ => none }
def lebOrdersRow : OpenClaim := { program := "ytcphoefiiejlhaa", sum := "b945a5e41e93e97483f81ca7739f526a97852ad6052c9ac0e043b4ca4c99a50b", func := "stencil/stencillaw2.LebOrders", spec := "lebOrders", apart := false }
def LebOrdersSaid : Prop := lebOrdersRow.holds Try.pinned (OpenSpec.ofChange lebOrdersSpec)

/-- ITS FALSE NEIGHBOUR: 'it returns false'. Refute it at one input. -/
def lebOrdersWrong : ChangeSpec := { name := "lebOrders", fn := fun _ => fun
  | [d1, d2, d3] => { results := [.lit (.bool false)], args := [d1, d2, d3] }
  | _ => none }
def LebOrdersWrongFalsely : Prop := lebOrdersRow.holds Try.pinned (OpenSpec.ofChange lebOrdersWrong)

/- THE SECOND FORM. 'bulk': how many values and letters a reading holds, each counted each time it is reached (what is shared counts as often as it is met; a slice's spare places count too). A statement '..UptoSaid' is the law's where the arguments, and the package variables that the reading takes, are together of bulk at most 1048576: NARROWER than '..Said'. Prove '..Said' where nothing that the law and all that it calls make is longer than what came in: it says more and counts as full. Else prove '..UptoSaid'. A law counts once. -/
mutual
def uptoBulk {H : Type} : DataW H → Nat
  | .lit (.string bytes) => bytes.length + 1
  | .lit _ => 1
  | .nil => 1
  | .ptr d => uptoBulk d + 1
  | .slice elems spare => uptoBulkAll elems + uptoBulkAll spare + 1
  | .agg parts => uptoBulkAll parts + 1
  | .iface _ d => uptoBulk d + 1
  | .map entries => uptoBulkEntries entries + 1
  | .held _ => 1
def uptoBulkAll {H : Type} : List (DataW H) → Nat
  | [] => 0
  | d :: r => uptoBulk d + uptoBulkAll r
def uptoBulkEntries {H : Type} : List (Lit × DataW H) → Nat
  | [] => 0
  | x :: r => uptoBulkEntry x + uptoBulkEntries r
def uptoBulkEntry {H : Type} : Lit × DataW H → Nat
  | (.string bytes, d) => bytes.length + uptoBulk d + 1
  | (_, d) => uptoBulk d + 1
 end
def uptoSmall : (H : Type) → List (DataW H) → Bool := fun _ ds => decide (uptoBulkAll ds ≤ 1048576)
def OpenSpec.upto (s : _root_.Go.ChangeSpec) : _root_.Go.OpenSpec := { _root_.Go.OpenSpec.ofChange s with cond := some uptoSmall }

/-- 'stencillaw0.StencilNames', WHERE WHAT IT READS IS OF BULK AT MOST 1048576: true; the input reads as it did. -/
def stencilNamesUptoRow : OpenClaim := { program := "ytcphoefiiejlhaa", sum := "b945a5e41e93e97483f81ca7739f526a97852ad6052c9ac0e043b4ca4c99a50b", func := "stencil/stencillaw0.StencilNames", spec := "stencilNames", apart := false, narrowed := true }
def StencilNamesUptoSaid : Prop := stencilNamesUptoRow.holds Try.pinned (OpenSpec.upto stencilNamesSpec)

/-- 'stencillaw2.LebPuts', WHERE WHAT IT READS IS OF BULK AT MOST 1048576: true; the input reads as it did. -/
def lebPutsUptoRow : OpenClaim := { program := "ytcphoefiiejlhaa", sum := "b945a5e41e93e97483f81ca7739f526a97852ad6052c9ac0e043b4ca4c99a50b", func := "stencil/stencillaw2.LebPuts", spec := "lebPuts", apart := false, narrowed := true }
def LebPutsUptoSaid : Prop := lebPutsUptoRow.holds Try.pinned (OpenSpec.upto lebPutsSpec)

/-- 'stencillaw2.LebTakes', WHERE WHAT IT READS IS OF BULK AT MOST 1048576: true; the input reads as it did. -/
def lebTakesUptoRow : OpenClaim := { program := "ytcphoefiiejlhaa", sum := "b945a5e41e93e97483f81ca7739f526a97852ad6052c9ac0e043b4ca4c99a50b", func := "stencil/stencillaw2.LebTakes", spec := "lebTakes", apart := false, narrowed := true }
def LebTakesUptoSaid : Prop := lebTakesUptoRow.holds Try.pinned (OpenSpec.upto lebTakesSpec)

/-- 'stencillaw2.LebForms', WHERE WHAT IT READS IS OF BULK AT MOST 1048576: true; the input reads as it did. -/
def lebFormsUptoRow : OpenClaim := { program := "ytcphoefiiejlhaa", sum := "b945a5e41e93e97483f81ca7739f526a97852ad6052c9ac0e043b4ca4c99a50b", func := "stencil/stencillaw2.LebForms", spec := "lebForms", apart := false, narrowed := true }
def LebFormsUptoSaid : Prop := lebFormsUptoRow.holds Try.pinned (OpenSpec.upto lebFormsSpec)

/-- 'stencillaw2.LebOrders', WHERE WHAT IT READS IS OF BULK AT MOST 1048576: true; the input reads as it did. -/
def lebOrdersUptoRow : OpenClaim := { program := "ytcphoefiiejlhaa", sum := "b945a5e41e93e97483f81ca7739f526a97852ad6052c9ac0e043b4ca4c99a50b", func := "stencil/stencillaw2.LebOrders", spec := "lebOrders", apart := false, narrowed := true }
def LebOrdersUptoSaid : Prop := lebOrdersUptoRow.holds Try.pinned (OpenSpec.upto lebOrdersSpec)

end Rows
end Go.Proofs.Ytcphoefiiejlhaa
