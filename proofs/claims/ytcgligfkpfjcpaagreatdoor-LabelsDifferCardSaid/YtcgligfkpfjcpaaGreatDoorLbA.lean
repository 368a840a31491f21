/- Labels: wishes, what is called. -/
import Derived.Test.YtcgligfkpfjcpaaGreatDoorReA
namespace Go.Proofs.YtcgligfkpfjcpaaGreatDoor

structure Wi where
  node : ByteArray
  name : ByteArray
  joined : Int
def noWi : Wi := ⟨ByteArray.empty, ByteArray.empty, 0⟩
structure Cd where
  node : ByteArray
  label : ByteArray
def noCd : Cd := ⟨ByteArray.empty, ByteArray.empty⟩
end Go.Proofs.YtcgligfkpfjcpaaGreatDoor
