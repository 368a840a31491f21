/- Small words about cells, for any seat. -/
import Derived.Test.YtcmfkheohhfpiaaGreatDoorStr
namespace Go.Proofs.YtcmfkheohhfpiaaGreatDoor
open Go.RowKit Go.Hw
theorem cell_drew (w : World) (a : Addr) : w.drew.cell? a = w.cell? a := rfl
theorem heap_set {w : World} {g : Nat} {c : Array Value} {t : TypeId} {l} (h : w.heap[g]? = some (.cells c t l)) (i : Nat) (v : Value) :
    (w.setCell ⟨g, i, none⟩ v).heap[g]? = some (.cells (c.setIfInBounds i v) t l) := by
  simp [World.setCell, Array.getElem?_modify, h]
theorem cell_of {w : World} {g : Nat} {c : Array Value} {t : TypeId} {l} (h : w.heap[g]? = some (.cells c t l)) (i : Nat) : w.cell? ⟨g, i, none⟩ = c[i]? := by simp [World.cell?, h]
end Go.Proofs.YtcmfkheohhfpiaaGreatDoor
