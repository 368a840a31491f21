/- Caches: records and entries. -/
import Derived.Test.YtedpjecbfcogcaaGreatDoorRe
namespace Go.Proofs.YtedpjecbfcogcaaGreatDoor

structure Rec where
  name : ByteArray
  kind : Int
  six : Bool
  hi : Int
  lo : Int
  to : ByteArray
  words : ByteArray
  life : Int
def noRec : Rec := ⟨ByteArray.empty, 0, false, 0, 0, ByteArray.empty, ByteArray.empty, 0⟩
/-- An entry of a cache; lA, lcap: where its records lie. -/
structure Kp where
  name : ByteArray
  kind : Int
  put : Int
  life : Int
  used : Int
  lA : Option Addr
  lcap : Nat
  recs : List Rec
def noKp : Kp := ⟨ByteArray.empty, 0, 0, 0, 0, none, 0, []⟩
end Go.Proofs.YtedpjecbfcogcaaGreatDoor
