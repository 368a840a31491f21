/- Small words about cells, for any seat. -/
import Derived.Test.YtcmfkheohhfpiaaGreatDoorStr
namespace Go.Proofs.YtcmfkheohhfpiaaGreatDoor
open Go.RowKit Go.Hw
theorem cell_ne (w : World) (g i j : Nat) (v : Value) (h : i ≠ j) : (w.setCell ⟨g, i, none⟩ v).cell? ⟨g, j, none⟩ = w.cell? ⟨g, j, none⟩ :=
  World.cell?_setCell_other _ _ _ _ (by intro e; injection e with e1 e2 e3; exact h e2)
theorem cell_drew (w : World) (a : Addr) : w.drew.cell? a = w.cell? a := rfl
theorem heap_set {w : World} {g : Nat} {c : Array Value} {t : TypeId} {l} (h : w.heap[g]? = some (.cells c t l)) (i : Nat) (v : Value) :
    (w.setCell ⟨g, i, none⟩ v).heap[g]? = some (.cells (c.setIfInBounds i v) t l) := by
  simp [World.setCell, Array.getElem?_modify, h]
theorem heap_drew {w : World} {g : Nat} {o : Option Obj} (h : w.heap[g]? = o) : w.drew.heap[g]? = o := h
theorem grown_set {w w1 : World} {g : Nat} (h : w.grownBy w1 (some g)) (i : Nat) (v : Value) : w.grownBy (w1.setCell ⟨g, i, none⟩ v) (some g) :=
  ⟨h.os, h.tape, h.output, by have := h.size; simp; omega, fun k hk hne => (Below.heap_setCell _ _ _ k (fun e => hne (by rw [e]))).trans (h.block k hk hne)⟩
theorem grown_drew {w w1 : World} {r : Option Nat} (h : w.grownBy w1 r) : w.grownBy w1.drew r := ⟨h.os, h.tape, h.output, h.size, h.block⟩
theorem cell_of {w : World} {g : Nat} {c : Array Value} {t : TypeId} {l} (h : w.heap[g]? = some (.cells c t l)) (i : Nat) : w.cell? ⟨g, i, none⟩ = c[i]? := by simp [World.cell?, h]
end Go.Proofs.YtcmfkheohhfpiaaGreatDoor
