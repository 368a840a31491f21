/- slices.BinarySearchFunc over ranges; Spans.Has. Spans.Has. -/
import Derived.Test.YtcmfkheohhfpiaaGreatDoorSvG
namespace Go.Proofs.YtcmfkheohhfpiaaGreatDoor
open Go.RowKit Go.Hw
/-- What a binary search says. -/
structure BsI (L : List Rg) (x : Ad) (i j : Nat) : Prop where
  le : i ≤ j
  hi : j ≤ L.length
  lo : ∀ t, t < i → keyA (fiR (L.getD t noRg)) < keyA x
  up : ∀ t, j ≤ t → t < L.length → keyA x ≤ keyA (fiR (L.getD t noRg))
end Go.Proofs.YtcmfkheohhfpiaaGreatDoor

namespace Go.Proofs.YtcmfkheohhfpiaaGreatDoor
open Go.RowKit Go.Hw
end Go.Proofs.YtcmfkheohhfpiaaGreatDoor
