/- What the operations of a drawn region of draws yield. -/
import Derived.Test.YthjfnlbekbhmgaaGreatDoorRgD
import Derived.Test.YthjfnlbekbhmgaaGreatDoorDsA
namespace Go.Proofs.YthjfnlbekbhmgaaGreatDoor
open Go.RowKit Go.Hw

def VIs (u : Value) : World → Value → Prop := fun _ v => v = u
/-- A literal slice in a block of its own. -/
def VBox (b : Nat) (cs : Array Value) (T : TypeId) (n : Nat) : World → Value → Prop := fun w v => ∃ g, v = .slice (some ⟨g, 0, none⟩) n n ∧ w.heap[g]? = some (.cells cs T (0, 0)) ∧ b ≠ g
def VInt (S : Int → Prop) : World → Value → Prop := fun _ v => ∃ d, S d ∧ v = .int .i64 d
def VVal (S : Value → Prop) : World → Value → Prop := fun _ v => S v
/-- A new block. -/
def VNew (b base : Nat) (cs : Array Value) (T : TypeId) : World → Value → Prop := fun w v => ∃ P, v = .pointer (some ⟨P, 0, none⟩) ∧ w.heap[P]? = some (.cells cs T (0, 0)) ∧ base ≤ P ∧ b ≠ P
def Stab (b : Nat) (V : World → Value → Prop) : Prop := ∀ w w' v, V w v → w.grownBy w' (some b) → V w' v
theorem VIs.stab (b : Nat) (u : Value) : Stab b (VIs u) := fun _ _ _ h _ => h
theorem VInt.stab (b : Nat) (S : Int → Prop) : Stab b (VInt S) := fun _ _ _ h _ => h
theorem VVal.stab (b : Nat) (S : Value → Prop) : Stab b (VVal S) := fun _ _ _ h _ => h
theorem VBox.stab (b : Nat) (cs : Array Value) (T : TypeId) (n : Nat) : Stab b (VBox b cs T n) := fun _ _ _ ⟨g, h1, h2, h3⟩ hg => ⟨g, h1, gk hg h2 h3, h3⟩
theorem VNew.stab (b base : Nat) (cs : Array Value) (T : TypeId) : Stab b (VNew b base cs T) := fun _ _ _ ⟨P, h1, h2, h3, h4⟩ hg => ⟨P, h1, gk hg h2 h4, h3, h4⟩
/-- The values of the operations, by a list. -/
def VL (l : List (World → Value → Prop)) (i : Nat) : World → Value → Prop := l.getD i (VIs undef)
theorem VL.stab {b : Nat} {l : List (World → Value → Prop)} (h : ∀ p ∈ l, Stab b p) (i : Nat) (w w' : World) (v : Value) (hv : VL l i w v) (hg : w.grownBy w' (some b)) : VL l i w' v := by
  unfold VL at *
  by_cases hi : i < l.length
  · exact h _ (getD_mem hi) w w' v hv hg
  · rw [List.getD_eq_getElem?_getD, List.getElem?_eq_none (by omega)] at hv ⊢
    exact hv
/-- What a draw in a region keeps: the stream, the blocks in view; the heap only grows. -/
def GD (w0 w2 : World) (b : Nat) (A : Option Addr) (cap : Nat) (l : List Int) (at_ m : Int) (bs : List Bk) (k : Nat) (w : World) : Prop := DS w0 w b A cap l at_ (m + k) bs ∧ w2.heap.size ≤ w.heap.size
theorem GD.start {w0 w : World} {b : Nat} {A : Option Addr} {cap : Nat} {l : List Int} {at_ m : Int} {bs : List Bk} (h : DS w0 w b A cap l at_ m bs) : GD w0 w b A cap l at_ m bs 0 w.drew := ⟨by simpa using h.dr, Nat.le_refl _⟩
theorem GD.same {w0 w2 w : World} {b : Nat} {A : Option Addr} {cap : Nat} {l : List Int} {at_ m : Int} {bs : List Bk} {k : Nat} (h : GD w0 w2 b A cap l at_ m bs k w) : GD w0 w2 b A cap l at_ m bs (k + 1) w := ⟨h.1.le (by omega), h.2⟩
theorem GD.alo {w0 w2 w : World} {b : Nat} {A : Option Addr} {cap : Nat} {l : List Int} {at_ m : Int} {bs : List Bk} {k : Nat} (h : GD w0 w2 b A cap l at_ m bs k w) (o : Obj) : GD w0 w2 b A cap l at_ m bs (k + 1) (w.alloc o) := ⟨(h.1.alo o).le (by omega), by have := h.2; simp; omega⟩
theorem GD.ext {w0 w2 w w' : World} {b : Nat} {A : Option Addr} {cap : Nat} {l : List Int} {at_ m : Int} {bs : List Bk} {k : Nat} (h : GD w0 w2 b A cap l at_ m bs k w) (hd : DS w0 w' b A cap l at_ (m + k + 1) bs) (hg : w.grownBy w' (some b)) : GD w0 w2 b A cap l at_ m bs (k + 1) w' := ⟨hd.le (by omega), Nat.le_trans h.2 hg.size⟩
theorem gr_refl (w : World) (b : Nat) : w.grownBy w (some b) := World.grownBy.refl _ _
theorem gr_alo (w : World) (b : Nat) (o : Obj) : w.grownBy (w.alloc o) (some b) := World.grownBy_alloc _ _ _
end Go.Proofs.YthjfnlbekbhmgaaGreatDoor
