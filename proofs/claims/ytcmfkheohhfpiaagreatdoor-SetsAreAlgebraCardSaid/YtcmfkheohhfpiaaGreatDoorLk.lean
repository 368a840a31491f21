/- Links as they lie in memory; words for rows that the call owns. -/
import Derived.Test.YtcmfkheohhfpiaaGreatDoorStr
namespace Go.Proofs.YtcmfkheohhfpiaaGreatDoor
open Go.RowKit Go.Hw

/-- A link as it lies in memory. -/
structure Lk where
  a : ByteArray
  b : ByteArray
  m : Int
def lkCells (x : Lk) : List Value := [.string x.a, .string x.b, .int .i64 x.m]
def lksCells (xs : List Lk) : List Value := xs.flatMap lkCells
theorem own_base {w : World} {base base' : Nat} {e : TypeId} {size : Nat} {v : Value} {n : Nat} {xs : List Value} (h : w.ownsRow base e size v n xs) (hb : base' ≤ base) : w.ownsRow base' e size v n xs := by
  obtain ⟨h1, h2 | ⟨g, cap, cur, h3, h4, h5⟩⟩ := h
  · exact ⟨h1, .inl h2⟩
  · exact ⟨h1, .inr ⟨g, cap, cur, h3, by omega, h5⟩⟩
theorem cells_new (w : World) (cs : List Value) (T : TypeId) : ∀ j u, cs[j]? = some u → (w.alloc (.cells cs.toArray T)).cell? ((⟨w.heap.size, 0, none⟩ : Addr).add j) = some u := by
  intro j u hu
  have hadd : (⟨w.heap.size, 0, none⟩ : Addr).add j = ⟨w.heap.size, j, none⟩ := by unfold Addr.add; split <;> simp_all
  rw [hadd]
  simp only [World.cell?, heap_alloc_new]
  simpa using hu
end Go.Proofs.YtcmfkheohhfpiaaGreatDoor
