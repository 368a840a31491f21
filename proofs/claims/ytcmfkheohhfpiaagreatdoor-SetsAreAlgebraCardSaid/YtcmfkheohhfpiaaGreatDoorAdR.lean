/- Addresses in memory. -/
import Derived.Test.YtcmfkheohhfpiaaGreatDoorRwS
import Derived.Test.YtcmfkheohhfpiaaGreatDoorRwB
import Derived.Test.YtcmfkheohhfpiaaGreatDoorRgS
namespace Go.Proofs.YtcmfkheohhfpiaaGreatDoor
open Go.RowKit Go.Hw

/-- An address. -/
structure Ad where
  six : Bool
  hi : Int
  lo : Int
def noAd : Ad := ⟨false, 0, 0⟩

def adC (e : Ad) : List Value := [.bool e.six, .int .u64 e.hi, .int .u64 e.lo]
abbrev adAt (w : World) (A : Option Addr) (L : List Ad) : Prop := RwAt adC 3 noAd w A L
abbrev adOwn (w : World) (base : Nat) (v : Value) (L : List Ad) : Prop := w.ownsRow base 30 3 v L.length (rwC adC L)
/-- What is asked of a closure over these structs. -/
def adPred (g : Nat) (lb : Array Value) (p : Ad → Bool) (L : List Ad) (w : World) : Prop :=
  ∀ (W : World) (e : Ad), e ∈ L → Below w.heap.size w W → Calls Tryz.prog g (#[.agg #[.bool e.six, .int .u64 e.hi, .int .u64 e.lo]] ++ lb) W fun en w' => en = .returned (.bool (p e)) ∧ Below W.heap.size W w'

def adZ : Array Value := #[.bool false, .int .u64 0, .int .u64 0]
end Go.Proofs.YtcmfkheohhfpiaaGreatDoor
