/-
  No cell of these rows narrows 'for every input' (looked for: loops, veiled, ifaces, maps, wideKeys, modest, calm, conditions, laid).
  DERIVED. THE GIVEN ROWS OF THIS SEAT. 6 by the template 'for every input the law returns true; each argument reads behind the call as it read before'; 0 by the template 'total and deterministic' (their statements: YtahpohhadcflfaaTotals.lean).
  GIVEN WITH THE SEED: the statements are not yours to turn. If you find one false, say at which input.
  Laid BY PROGRAM, IN A SANDBOX (cutbox-rows.mjs): the forced cells as the released guide's own fill.sh prints them over the translation 840ee0d896bcc482… (all of the seat's roots in one cut). By AI agents, Wed Nov 11 2026. No macro, syntax, notation, axiom, sorry.
-/
import Derived.Test.YtahpohhadcflfaaChecked
import GoSem.Claim
import GoSem.ClaimJoined
import GoSem.ClaimMapViews
import Derived.JoinedTies
import Derived.KernelRfl
namespace Go.Proofs.Ytahpohhadcflfaa
/- THE CELL 'sum', in the pinned program and in every row, IS THE sha256 OF THE DUMP (.gsa) THAT YtahpohhadcflfaaProg.lean LOADS. Nothing in Lean hashes anything: it is a label: what it is worth is what the hold of that sum in a sandbox is worth. -/
noncomputable def Try.pinned : Pinned := { name := "ytahpohhadcflfaa", sum := "840ee0d896bcc48248c7b5654828ff4614de721a14f020c1b685228f606a2260", checked := Try.checked }
namespace Rows
def none {H : Type} : Left H := { results := [], args := [] }

/-- 'stencillaw9.LisLongest': WHATEVER THE INPUT: true; the input reads as it did. -/
def lisLongestSpec : ChangeSpec := { name := "lisLongest", fn := fun _ => fun
  | [d] => { results := [.lit (.bool true)], args := [d] }
  | _ => none }
def lisLongestRow : OpenClaim := { program := "ytahpohhadcflfaa", sum := "840ee0d896bcc48248c7b5654828ff4614de721a14f020c1b685228f606a2260", func := "stencil/stencillaw9.LisLongest", spec := "lisLongest", unfollowed := true, recurses := true, plainKeys := false, apart := false }
def LisLongestSaid : Prop := lisLongestRow.holds Try.pinned (OpenSpec.ofChange lisLongestSpec)

/-- ITS FALSE NEIGHBOUR: 'it returns false'. Refute it at one input. -/
def lisLongestWrong : ChangeSpec := { name := "lisLongest", fn := fun _ => fun
  | [d] => { results := [.lit (.bool false)], args := [d] }
  | _ => none }
def LisLongestWrongFalsely : Prop := lisLongestRow.holds Try.pinned (OpenSpec.ofChange lisLongestWrong)

/-- 'stencillaw9.LisMoves': WHATEVER THE INPUT: true; the input reads as it did. -/
def lisMovesSpec : ChangeSpec := { name := "lisMoves", fn := fun _ => fun
  | [d1, d2] => { results := [.lit (.bool true)], args := [d1, d2] }
  | _ => none }
def lisMovesRow : OpenClaim := { program := "ytahpohhadcflfaa", sum := "840ee0d896bcc48248c7b5654828ff4614de721a14f020c1b685228f606a2260", func := "stencil/stencillaw9.LisMoves", spec := "lisMoves", unfollowed := true, recurses := true, plainKeys := false, apart := false }
def LisMovesSaid : Prop := lisMovesRow.holds Try.pinned (OpenSpec.ofChange lisMovesSpec)

/-- ITS FALSE NEIGHBOUR: 'it returns false'. Refute it at one input. -/
def lisMovesWrong : ChangeSpec := { name := "lisMoves", fn := fun _ => fun
  | [d1, d2] => { results := [.lit (.bool false)], args := [d1, d2] }
  | _ => none }
def LisMovesWrongFalsely : Prop := lisMovesRow.holds Try.pinned (OpenSpec.ofChange lisMovesWrong)

/-- 'stencillaw9.LisRises': WHATEVER THE INPUT: true; the input reads as it did. -/
def lisRisesSpec : ChangeSpec := { name := "lisRises", fn := fun _ => fun
  | [d1, d2] => { results := [.lit (.bool true)], args := [d1, d2] }
  | _ => none }
def lisRisesRow : OpenClaim := { program := "ytahpohhadcflfaa", sum := "840ee0d896bcc48248c7b5654828ff4614de721a14f020c1b685228f606a2260", func := "stencil/stencillaw9.LisRises", spec := "lisRises", unfollowed := true, recurses := true, plainKeys := false, apart := false }
def LisRisesSaid : Prop := lisRisesRow.holds Try.pinned (OpenSpec.ofChange lisRisesSpec)

/-- ITS FALSE NEIGHBOUR: 'it returns false'. Refute it at one input. -/
def lisRisesWrong : ChangeSpec := { name := "lisRises", fn := fun _ => fun
  | [d1, d2] => { results := [.lit (.bool false)], args := [d1, d2] }
  | _ => none }
def LisRisesWrongFalsely : Prop := lisRisesRow.holds Try.pinned (OpenSpec.ofChange lisRisesWrong)

/-- 'stencillaw9.LisPiles': WHATEVER THE INPUT: true; the input reads as it did. -/
def lisPilesSpec : ChangeSpec := { name := "lisPiles", fn := fun _ => fun
  | [d] => { results := [.lit (.bool true)], args := [d] }
  | _ => none }
def lisPilesRow : OpenClaim := { program := "ytahpohhadcflfaa", sum := "840ee0d896bcc48248c7b5654828ff4614de721a14f020c1b685228f606a2260", func := "stencil/stencillaw9.LisPiles", spec := "lisPiles", unfollowed := true, recurses := true, plainKeys := false, apart := false }
def LisPilesSaid : Prop := lisPilesRow.holds Try.pinned (OpenSpec.ofChange lisPilesSpec)

/-- ITS FALSE NEIGHBOUR: 'it returns false'. Refute it at one input. -/
def lisPilesWrong : ChangeSpec := { name := "lisPiles", fn := fun _ => fun
  | [d] => { results := [.lit (.bool false)], args := [d] }
  | _ => none }
def LisPilesWrongFalsely : Prop := lisPilesRow.holds Try.pinned (OpenSpec.ofChange lisPilesWrong)

/-- 'stencillaw9.LisKeys': WHATEVER THE INPUT: true; the input reads as it did. -/
def lisKeysSpec : ChangeSpec := { name := "lisKeys", fn := fun _ => fun
  | [d1, d2] => { results := [.lit (.bool true)], args := [d1, d2] }
  | _ => none }
def lisKeysRow : OpenClaim := { program := "ytahpohhadcflfaa", sum := "840ee0d896bcc48248c7b5654828ff4614de721a14f020c1b685228f606a2260", func := "stencil/stencillaw9.LisKeys", spec := "lisKeys", unfollowed := true, recurses := true, plainKeys := false, apart := false }
def LisKeysSaid : Prop := lisKeysRow.holds Try.pinned (OpenSpec.ofChange lisKeysSpec)

/-- ITS FALSE NEIGHBOUR: 'it returns false'. Refute it at one input. -/
def lisKeysWrong : ChangeSpec := { name := "lisKeys", fn := fun _ => fun
  | [d1, d2] => { results := [.lit (.bool false)], args := [d1, d2] }
  | _ => none }
def LisKeysWrongFalsely : Prop := lisKeysRow.holds Try.pinned (OpenSpec.ofChange lisKeysWrong)

/-- 'stencillaw18.PatchPlans': WHATEVER THE INPUT: true; the input reads as it did. -/
def patchPlansSpec : ChangeSpec := { name := "patchPlans", fn := fun _ => fun
  | [d1, d2, d3, d4] => { results := [.lit (.bool true)], args := [d1, d2, d3, d4] }
  | _ => none }
def patchPlansRow : OpenClaim := { program := "ytahpohhadcflfaa", sum := "840ee0d896bcc48248c7b5654828ff4614de721a14f020c1b685228f606a2260", func := "stencil/stencillaw18.PatchPlans", spec := "patchPlans", unfollowed := true, recurses := true, plainKeys := false, apart := false }
def PatchPlansSaid : Prop := patchPlansRow.holds Try.pinned (OpenSpec.ofChange patchPlansSpec)

/-- ITS FALSE NEIGHBOUR: 'it returns false'. Refute it at one input. -/
def patchPlansWrong : ChangeSpec := { name := "patchPlans", fn := fun _ => fun
  | [d1, d2, d3, d4] => { results := [.lit (.bool false)], args := [d1, d2, d3, d4] }
  | _ => none }
def PatchPlansWrongFalsely : Prop := patchPlansRow.holds Try.pinned (OpenSpec.ofChange patchPlansWrong)

/- THE SECOND FORM. 'bulk': how many values and letters a reading holds, each counted each time it is reached (what is shared counts as often as it is met; a slice's spare places count too). A statement '..UptoSaid' is the law's where the arguments, and the package variables that the reading takes, are together of bulk at most 1048576: NARROWER than '..Said'. Prove '..Said' where nothing that the law and all that it calls make is longer than what came in: it says more and counts as full. Else prove '..UptoSaid'. A law counts once. -/
mutual
def uptoBulk {H : Type} : DataW H → Nat
  | .lit (.string bytes) => bytes.length + 1
  | .lit _ => 1
  | .nil => 1
  | .ptr d => uptoBulk d + 1
  | .slice elems spare => uptoBulkAll elems + uptoBulkAll spare + 1
  | .agg parts => uptoBulkAll parts + 1
  | .iface _ d => uptoBulk d + 1
  | .map entries => uptoBulkEntries entries + 1
  | .held _ => 1
def uptoBulkAll {H : Type} : List (DataW H) → Nat
  | [] => 0
  | d :: r => uptoBulk d + uptoBulkAll r
def uptoBulkEntries {H : Type} : List (Lit × DataW H) → Nat
  | [] => 0
  | x :: r => uptoBulkEntry x + uptoBulkEntries r
def uptoBulkEntry {H : Type} : Lit × DataW H → Nat
  | (.string bytes, d) => bytes.length + uptoBulk d + 1
  | (_, d) => uptoBulk d + 1
 end
def uptoSmall : (H : Type) → List (DataW H) → Bool := fun _ ds => decide (uptoBulkAll ds ≤ 1048576)
def OpenSpec.upto (s : _root_.Go.ChangeSpec) : _root_.Go.OpenSpec := { _root_.Go.OpenSpec.ofChange s with cond := some uptoSmall }

/-- 'stencillaw9.LisLongest', WHERE WHAT IT READS IS OF BULK AT MOST 1048576: true; the input reads as it did. -/
def lisLongestUptoRow : OpenClaim := { program := "ytahpohhadcflfaa", sum := "840ee0d896bcc48248c7b5654828ff4614de721a14f020c1b685228f606a2260", func := "stencil/stencillaw9.LisLongest", spec := "lisLongest", unfollowed := true, recurses := true, plainKeys := false, apart := false, narrowed := true }
def LisLongestUptoSaid : Prop := lisLongestUptoRow.holds Try.pinned (OpenSpec.upto lisLongestSpec)

/-- 'stencillaw9.LisMoves', WHERE WHAT IT READS IS OF BULK AT MOST 1048576: true; the input reads as it did. -/
def lisMovesUptoRow : OpenClaim := { program := "ytahpohhadcflfaa", sum := "840ee0d896bcc48248c7b5654828ff4614de721a14f020c1b685228f606a2260", func := "stencil/stencillaw9.LisMoves", spec := "lisMoves", unfollowed := true, recurses := true, plainKeys := false, apart := false, narrowed := true }
def LisMovesUptoSaid : Prop := lisMovesUptoRow.holds Try.pinned (OpenSpec.upto lisMovesSpec)

/-- 'stencillaw9.LisRises', WHERE WHAT IT READS IS OF BULK AT MOST 1048576: true; the input reads as it did. -/
def lisRisesUptoRow : OpenClaim := { program := "ytahpohhadcflfaa", sum := "840ee0d896bcc48248c7b5654828ff4614de721a14f020c1b685228f606a2260", func := "stencil/stencillaw9.LisRises", spec := "lisRises", unfollowed := true, recurses := true, plainKeys := false, apart := false, narrowed := true }
def LisRisesUptoSaid : Prop := lisRisesUptoRow.holds Try.pinned (OpenSpec.upto lisRisesSpec)

/-- 'stencillaw9.LisPiles', WHERE WHAT IT READS IS OF BULK AT MOST 1048576: true; the input reads as it did. -/
def lisPilesUptoRow : OpenClaim := { program := "ytahpohhadcflfaa", sum := "840ee0d896bcc48248c7b5654828ff4614de721a14f020c1b685228f606a2260", func := "stencil/stencillaw9.LisPiles", spec := "lisPiles", unfollowed := true, recurses := true, plainKeys := false, apart := false, narrowed := true }
def LisPilesUptoSaid : Prop := lisPilesUptoRow.holds Try.pinned (OpenSpec.upto lisPilesSpec)

/-- 'stencillaw9.LisKeys', WHERE WHAT IT READS IS OF BULK AT MOST 1048576: true; the input reads as it did. -/
def lisKeysUptoRow : OpenClaim := { program := "ytahpohhadcflfaa", sum := "840ee0d896bcc48248c7b5654828ff4614de721a14f020c1b685228f606a2260", func := "stencil/stencillaw9.LisKeys", spec := "lisKeys", unfollowed := true, recurses := true, plainKeys := false, apart := false, narrowed := true }
def LisKeysUptoSaid : Prop := lisKeysUptoRow.holds Try.pinned (OpenSpec.upto lisKeysSpec)

/-- 'stencillaw18.PatchPlans', WHERE WHAT IT READS IS OF BULK AT MOST 1048576: true; the input reads as it did. -/
def patchPlansUptoRow : OpenClaim := { program := "ytahpohhadcflfaa", sum := "840ee0d896bcc48248c7b5654828ff4614de721a14f020c1b685228f606a2260", func := "stencil/stencillaw18.PatchPlans", spec := "patchPlans", unfollowed := true, recurses := true, plainKeys := false, apart := false, narrowed := true }
def PatchPlansUptoSaid : Prop := patchPlansUptoRow.holds Try.pinned (OpenSpec.upto patchPlansSpec)

end Rows
end Go.Proofs.Ytahpohhadcflfaa
