/- A block of memory that is laid anew; words for the stream. -/
import Derived.Test.YtcmfkheohhfpiaaGreatDoorStr
import Derived.Test.YtcmfkheohhfpiaaGreatDoorTokW
import Derived.Test.YtcmfkheohhfpiaaGreatDoorLk
import Derived.OneCell
namespace Go.Proofs.YtcmfkheohhfpiaaGreatDoor
open Go.RowKit Go.Hw

/-- Block R of W2 holds cs, and all else is as in W. -/
structure Re (W W2 : World) (R : Nat) (cs : Array Value) (T : TypeId) : Prop where
  blk : W2.heap[R]? = some (.cells cs T (0, 0))
  oth : ∀ k, k ≠ R → W2.heap[k]? = W.heap[k]?
  os : W2.os = W.os
  tape : W2.tape = W.tape
  output : W2.output = W.output
  size : W2.heap.size = W.heap.size
theorem grownB {w w1 : World} (h : Below w.heap.size w w1) (row : Option Nat) : w.grownBy w1 row := ⟨h.os, h.tape, h.output, h.size, fun k hk _ => h.block k hk⟩
theorem Re.refl {W : World} {R : Nat} {cs : Array Value} {T : TypeId} (h : W.heap[R]? = some (.cells cs T (0, 0))) : Re W W R cs T := ⟨h, fun _ _ => rfl, rfl, rfl, rfl, rfl⟩
theorem Re.set {W W2 : World} {R : Nat} {cs : Array Value} {T : TypeId} (h : Re W W2 R cs T) (i : Nat) (v : Value) : Re W (W2.setCell ⟨R, i, none⟩ v) R (cs.setIfInBounds i v) T :=
  ⟨heap_set h.blk i v, fun k hk => (Below.heap_setCell _ _ _ _ hk).trans (h.oth k hk), h.os, h.tape, h.output, by have := h.size; simpa using this⟩
theorem Re.grown {w W W2 : World} {R : Nat} {cs : Array Value} {T : TypeId} {row : Option Nat} (h : Re W W2 R cs T) (hg : w.grownBy W row) (hR : w.heap.size ≤ R ∨ row = some R) : w.grownBy W2 row :=
  ⟨h.os.trans hg.os, h.tape.trans hg.tape, h.output.trans hg.output, by rw [h.size]; exact hg.size, fun k hk hne => (h.oth k (fun e => by
    rcases hR with hR | hR
    · omega
    · exact hne (by rw [hR, e]))).trans (hg.block k hk hne)⟩
theorem Re.below {w W W2 : World} {R B : Nat} {cs : Array Value} {T : TypeId} (h : Re W W2 R cs T) (hb : Below B w W) (hR : B ≤ R) : Below B w W2 :=
  ⟨h.os.trans hb.os, h.tape.trans hb.tape, h.output.trans hb.output, by rw [h.size]; exact hb.size, fun k hk => (h.oth k (by omega)).trans (hb.block k hk)⟩
theorem Re.str {W W2 : World} {R b : Nat} {cs : Array Value} {T : TypeId} {A : Option Addr} {cap : Nat} {l : List Int} {x : Int} (h : Re W W2 R cs T) (hs : Str W b A cap l x) (hR : b < R) : Str W2 b A cap l x :=
  hs.keep (h.oth b (by omega)) fun p hp => World.cell?_of_block (w := W) (h.oth p.block (by omega))
theorem Re.lt {W W2 : World} {R : Nat} {cs : Array Value} {T : TypeId} (h : Re W W2 R cs T) : R < W2.heap.size := (Array.getElem?_eq_some_iff.1 h.blk).1
theorem re3 {W W2 : World} {R : Nat} {a0 a1 a2 v0 v1 v2 : Value} {T : TypeId} (hz : W.heap[R]? = some (.cells #[a0, a1, a2] T (0, 0))) (h : (((W.setCell ⟨R, 0, none⟩ v0).setCell ⟨R, 1, none⟩ v1).setCell ⟨R, 2, none⟩ v2) = W2) : Re W W2 R #[v0, v1, v2] T := by
  have := (((Re.refl hz).set 0 v0).set 1 v1).set 2 v2
  rw [h] at this
  simpa using this
theorem re4 {W W2 : World} {R : Nat} {a0 a1 a2 a3 v0 v1 v2 v3 : Value} {T : TypeId} (hz : W.heap[R]? = some (.cells #[a0, a1, a2, a3] T (0, 0))) (h : ((((W.setCell ⟨R, 0, none⟩ v0).setCell ⟨R, 1, none⟩ v1).setCell ⟨R, 2, none⟩ v2).setCell ⟨R, 3, none⟩ v3) = W2) : Re W W2 R #[v0, v1, v2, v3] T := by
  have := ((((Re.refl hz).set 0 v0).set 1 v1).set 2 v2).set 3 v3
  rw [h] at this
  simpa using this
theorem res2 {W : World} {R : Nat} {a0 a1 : Value} {T : TypeId} (h : W.heap[R]? = some (.cells #[a0, a1] T (0, 0))) : (W.cell? ⟨R, 0, none⟩ = some a0 ∧ W.cell? ⟨R, 1, none⟩ = some a1) ∧ W.frozen? ⟨R, 0, none⟩ = false ∧ W.frozen? ⟨R, 1, none⟩ = false := by
  refine ⟨⟨?_, ?_⟩, ?_, ?_⟩ <;> simp [World.cell?, World.frozen?, h]
theorem res4 {W : World} {R : Nat} {a0 a1 a2 a3 : Value} {T : TypeId} (h : W.heap[R]? = some (.cells #[a0, a1, a2, a3] T (0, 0))) : (W.cell? ⟨R, 0, none⟩ = some a0 ∧ W.cell? ⟨R, 1, none⟩ = some a1 ∧ W.cell? ⟨R, 2, none⟩ = some a2 ∧ W.cell? ⟨R, 3, none⟩ = some a3) ∧ W.frozen? ⟨R, 0, none⟩ = false ∧ W.frozen? ⟨R, 1, none⟩ = false ∧ W.frozen? ⟨R, 2, none⟩ = false ∧ W.frozen? ⟨R, 3, none⟩ = false := by
  refine ⟨⟨?_, ?_, ?_, ?_⟩, ?_, ?_, ?_, ?_⟩ <;> simp [World.cell?, World.frozen?, h]
/-- The stream has handed out at most m numbers more. -/
def StrTo (w w' : World) (b : Nat) (A : Option Addr) (cap : Nat) (l : List Int) (at_ : Int) (m : Int) : Prop := ∃ at', at_ ≤ at' ∧ at' ≤ at_ + m ∧ Str w' b A cap l at' ∧ w.grownBy w' (some b)
theorem str_other {W W2 : World} {b R : Nat} {A : Option Addr} {cap : Nat} {l : List Int} {x : Int} (h : Str W b A cap l x) (hR : b < R) (hk : ∀ k, k ≠ R → W2.heap[k]? = W.heap[k]?) : Str W2 b A cap l x :=
  h.keep (hk b (by omega)) fun p hp => World.cell?_of_block (w := W) (hk p.block (by omega))
theorem blk_w {W w2 : World} {R b : Nat} {o : Obj} (hg : W.grownBy w2 (some b)) (hW : W.heap[R]? = some o) (hR : R ≠ b) : w2.heap[R]? = some o := (hg.block R (lt_of_block hW) (fun e => hR (by injection e))).trans hW
theorem res3 {W : World} {R : Nat} {a0 a1 a2 : Value} {T : TypeId} (h : W.heap[R]? = some (.cells #[a0, a1, a2] T (0, 0))) : W.cell? ⟨R, 0, none⟩ = some a0 ∧ W.cell? ⟨R, 1, none⟩ = some a1 ∧ W.cell? ⟨R, 2, none⟩ = some a2 ∧ W.frozen? ⟨R, 0, none⟩ = false ∧ W.frozen? ⟨R, 1, none⟩ = false ∧ W.frozen? ⟨R, 2, none⟩ = false := by
  refine ⟨?_, ?_, ?_, ?_, ?_, ?_⟩ <;> simp [World.cell?, World.frozen?, h]
theorem Str.dr {w : World} {b : Nat} {A : Option Addr} {cap : Nat} {l : List Int} {x : Int} (h : Str w b A cap l x) : Str w.drew b A cap l x := h.keep rfl fun _ _ => rfl
theorem drew_grown {w w' : World} {r : Option Nat} (h : w.drew.grownBy w' r) : w.grownBy w' r := ⟨h.os, h.tape, h.output, h.size, h.block⟩
theorem gcell {W w2 : World} {b : Nat} (h : W.grownBy w2 (some b)) : (∀ k i, k < W.heap.size → k ≠ b → w2.cell? ⟨k, i, none⟩ = W.cell? ⟨k, i, none⟩) ∧ (∀ k i, k < W.heap.size → k ≠ b → w2.frozen? ⟨k, i, none⟩ = W.frozen? ⟨k, i, none⟩) ∧ W.heap.size ≤ w2.heap.size :=
  ⟨fun k i hk hb => World.cell?_of_block (w := W) (h.block k hk (fun e => hb (by injection e))), fun k i hk hb => World.frozen?_of_block (w := W) (h.block k hk (fun e => hb (by injection e))), h.size⟩
end Go.Proofs.YtcmfkheohhfpiaaGreatDoor
