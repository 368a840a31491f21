/- Words for regions and worlds that rows 30 and 32 share. -/
import Derived.Test.YtfakfhbcpldeoaaGreatDoorPkE
namespace Go.Proofs.YtfakfhbcpldeoaaGreatDoor
open Go.RowKit Go.Hw

theorem bl_set {w w' : World} {R i : Nat} {v : Value} (h : Below w.heap.size w w') (hR : w.heap.size ≤ R) : Below w.heap.size w (w'.setCell ⟨R, i, none⟩ v) :=
  ⟨h.os, h.tape, h.output, by have := h.size; simpa [World.setCell] using this, fun k hk => (Below.heap_setCell w' ⟨R, i, none⟩ v k (by show k ≠ R; omega)).trans (h.block k hk)⟩
theorem bl_dn {w w' : World} (h : Below w.heap.size w w') (n : Nat) : Below w.heap.size w (w'.drewN n) := ⟨h.os, h.tape, h.output, h.size, h.block⟩
theorem VL.stabG {Gr : World → World → Prop} {l : List (World → Value → Prop)} (h : ∀ p ∈ l, ∀ w w' v, p w v → Gr w w' → p w' v) (i : Nat) (w w' : World) (v : Value) (hv : VL l i w v) (hg : Gr w w') : VL l i w' v := by
  unfold VL at *
  by_cases hi : i < l.length
  · exact h _ (getD_mem hi) w w' v hv hg
  · rw [List.getD_eq_getElem?_getD, List.getElem?_eq_none (by omega)] at hv ⊢
    exact hv
end Go.Proofs.YtfakfhbcpldeoaaGreatDoor
