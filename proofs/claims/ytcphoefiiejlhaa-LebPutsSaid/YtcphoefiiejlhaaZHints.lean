/- Hints for the interpreter by value: of this program. None of them is trusted. Printed by a tool of this claim's author. -/
import Derived.Test.YtcphoefiiejlhaaProg
import Derived.Test.YtcphoefiiejlhaaZA
import Derived.KernelRfl
namespace Go.Abs
open Go
structure tryFH where
  keep : List Nat
  homes : List (List Nat × Bool)
  ats : List (Nat × Nat × Bool)
  comps : List (Nat × Nat)
  keepObj : Bool
  frz : List Nat
  rck : List (Nat × List (Nat × Nat × Nat) × Bool)
  recov : Bool
  live : List (Nat × List Nat)
  loopKeep : Bool
def tryfh0 : tryFH := ⟨[], [], [], [], false, [], [], false, [], false⟩
def tryfhs : List tryFH := [
  tryfh0,
  tryfh0,
  ⟨[], [], [], [], false, [], [], false, [], true⟩,
  ⟨[0], [], [], [], false, [], [], false, [(2, [])], true⟩,
  ⟨[0, 1, 4, 5, 6, 7, 8, 9, 10, 11, 12, 13, 14, 34, 50], [], [], [], false, [], [], false, [(7, [0, 1, 5, 6, 7, 8]), (11, [0, 1, 6, 8])], true⟩,
  ⟨[0, 1, 4, 5, 6, 7, 8, 9, 10, 11, 12, 13, 14, 15, 16, 17], [], [], [], false, [], [], false, [], true⟩,
  ⟨[0, 1, 4, 5, 6, 7, 10, 12, 23, 62], [], [], [], false, [], [(6, ([(19, (0, 1))], false))], false, [(3, [0, 1]), (6, [0, 1, 5, 6]), (8, [0, 1, 6])], true⟩,
  ⟨[0, 1, 2, 6, 7, 8, 10, 17, 36, 38], [], [], [], false, [], [], false, [(3, [0, 1, 2]), (8, [2, 7, 8]), (10, [2]), (12, [2])], true⟩,
  ⟨[0], [], [], [], false, [], [], false, [], true⟩,
  ⟨[0], [], [], [], false, [], [], false, [], true⟩,
  ⟨[0], [], [], [], false, [], [], false, [], true⟩,
  ⟨[0], [], [], [], false, [], [], false, [], true⟩,
  ⟨[0], [], [], [], false, [], [], false, [], true⟩,
  ⟨[0], [], [], [], false, [], [], false, [], true⟩,
  ⟨[0], [], [], [], false, [], [], false, [], true⟩,
  ⟨[0], [], [], [], false, [], [], false, [], true⟩,
  ⟨[0], [], [], [], false, [], [], false, [], true⟩,
  ⟨[0], [], [], [], false, [], [], false, [], true⟩,
  ⟨[0], [], [], [], false, [], [], false, [], true⟩,
  ⟨[0], [], [], [], false, [], [], false, [], true⟩,
  ⟨[0], [], [], [], false, [], [], false, [], true⟩,
  ⟨[0], [], [], [], false, [], [], false, [], true⟩,
  ⟨[0], [], [], [], false, [], [], false, [], true⟩,
  ⟨[0], [], [], [], false, [], [], false, [], true⟩,
  ⟨[0], [], [], [], false, [], [], false, [], true⟩,
  ⟨[0], [], [], [], false, [], [], false, [], true⟩,
  ⟨[0], [], [], [], false, [], [], false, [], true⟩,
  ⟨[0, 2, 3, 5], [([13, 18], true)], [], [], true, [], [], false, [(2, [0, 3]), (4, [0, 3]), (3, [0, 3]), (5, [0, 3])], true⟩,
  ⟨[0, 2], [], [], [], true, [], [], false, [], true⟩,
  ⟨[0, 1, 4], [], [], [], false, [], [], false, [], true⟩,
  ⟨[0, 2, 3, 5], [([12, 19], false)], [], [], false, [2], [], false, [(2, [0, 3]), (3, [0, 3]), (5, [0, 3])], true⟩,
  ⟨[0, 2, 4], [], [], [], false, [2], [], false, [(3, [0])], true⟩,
  ⟨[0, 2, 6], [], [], [], false, [], [], false, [(1, [0, 2]), (3, [0, 2]), (2, [0, 2])], true⟩,
  ⟨[0, 1, 4, 5, 6, 7, 8, 9, 17, 20, 21, 22, 23, 27, 50], [], [], [], false, [], [], false, [(3, [0, 1]), (5, [1, 7, 20, 21, 22]), (6, [1, 7, 20, 21, 22]), (9, [1, 7, 8, 9, 20, 21, 22, 27]), (10, [1, 7, 8, 9, 20, 21, 22]), (13, [1, 7, 20, 21, 22]), (14, [])], true⟩,
  ⟨[0, 1, 4, 5, 6, 7, 8, 9, 18], [], [], [], false, [], [], false, [(4, [7, 8])], true⟩,
  ⟨[0, 2], [], [], [], false, [], [], false, [], true⟩,
  ⟨[0, 1, 2, 3, 4, 5, 6], [], [], [], false, [], [], false, [], true⟩,
  ⟨[0, 2, 3], [([7], false)], [], [], false, [2], [], false, [], true⟩,
  ⟨[0, 1, 4, 5, 6, 7, 8, 9, 10, 18, 26, 39, 49, 55], [], [], [], false, [], [], false, [(3, [0, 1]), (7, [0, 1, 7, 8, 9]), (9, [0, 1, 7, 8, 9]), (12, [0, 1, 7, 8, 9, 10]), (17, [1, 7, 9]), (6, [0, 1, 7, 8, 9])], true⟩,
  ⟨[0, 1, 4, 5, 6, 7, 8, 9, 18, 22], [], [], [], false, [], [], false, [(4, [7, 8]), (6, [7, 8])], true⟩,
  ⟨[0, 1, 4, 5], [], [], [], false, [], [], false, [], true⟩,
  ⟨[0, 2], [([5], false)], [], [], true, [2], [], false, [], true⟩,
  tryfh0,
  tryfh0,
  tryfh0,
  tryfh0,
  tryfh0,
  tryfh0,
  tryfh0,
  tryfh0,
  tryfh0,
  tryfh0,
  tryfh0,
  tryfh0,
  tryfh0,
  tryfh0,
  tryfh0,
  tryfh0,
  tryfh0]
def trycells : List (Nat × List Nat) := []
def tryglobs : List (Nat × List AV) := []
def tryat (f : Nat) : tryFH := tryfhs.getD f tryfh0
def tryhints : Hints :=
  { keep := fun f => (tryat f).keep, glob := fun g => (tryglobs.find? (·.1 == g)).map (·.2), homes := fun f => (tryat f).homes.length,
    home := fun f s => match (tryat f).homes.findIdx? (·.1.contains s) with | some i => some (none, i, (((tryat f).homes[i]?).map (·.2)).getD false) | none => (((tryat f).ats.find? fun x => x.1 == s).map fun x => (some x.2.1, 0, x.2.2)),
    comp := fun f s => (((tryat f).comps.find? fun x => x.1 == s).map (·.2)).getD 0,
    cidx := fun t c => (((trycells.find? (·.1 == t)).bind fun x => x.2.idxOf? c)).getD 0,
    keepObj := fun f => (tryat f).keepObj, loopKeep := fun f => (tryat f).loopKeep, frz := fun f s => (tryat f).frz.contains s,
    recheck := fun f id => (((tryat f).rck.find? fun x => x.1 == id).map fun x => x.2.1).getD [],
    pok := fun f id => (((tryat f).rck.find? fun x => x.1 == id).map fun x => x.2.2).getD false,
    prim := fun _ => none,
    ext := fun _ => none,
    recov := fun f => (tryat f).recov,
    live := fun f k => ((tryat f).live.find? fun x => x.1 == k).map (·.2) }
end Go.Abs
