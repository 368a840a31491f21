/- cmp.Compare at int. -/
import Derived.Test.YtcmfkheohhfpiaaGreatDoorKey
namespace Go.Proofs.YtcmfkheohhfpiaaGreatDoor
open Go.RowKit Go.Hw Go.Shelf

/-- The order of two numbers. -/
def cmpI (a b : Int) : Int := if a < b then -1 else if b < a then 1 else 0
end Go.Proofs.YtcmfkheohhfpiaaGreatDoor
