/- Every error number, limit and kind that the program's package api names is the document's; no condition. -/
import Derived.Test.YtcphoefiiejlhaaPStencilNamesx4
namespace Go.Proofs.Ytcphoefiiejlhaa.Pure
open Go.RowKit Go.Proofs.Ytcphoefiiejlhaa.PStencilNames Go.Proofs.YtcphoefiiejlhaaW.PrintWords Go.Proofs.YtcphoefiiejlhaaW.PrintLast

/-- YOURS: stencillaw0_StencilNames.f  = some true
What it reaches (each with k first where it has rounds; `.mono`: more rounds tell the same; `.l0`, ..: its loops, with `.mono_l`): stencillaw0_Num.f, stencillaw0_errors1.f, stencillaw0_errors2.f, stencillaw0_errors3.f, stencillaw0_errors4.f, stencillaw0_errors5.f, stencillaw0_errors6.f, stencillaw0_errors7.f, stencillaw0_errors8.f, stencillaw0_errors9.f, stencillaw0_numbers1.f, stencillaw0_numbers2.f, stencillaw0_numbers3.f, stencillaw0_numbers4.f, stencillaw0_numbers5.f, stencillaw0_numbers6.f, stencillaw0_numbers7.f, stencillaw0_numbers8.f, stencillaw0_numbers9.f, stencillaw0_numbers10.f, stencillaw0_StencilNames.f -/
theorem StencilNames : stencillaw0_StencilNames.Pure := by
  unfold stencillaw0_StencilNames.Pure; decide +kernel

end Go.Proofs.Ytcphoefiiejlhaa.Pure
