/- Turns in rows of one's own, and small words (they stand in the texts of row 11 too: rows 5 and 7 do without those). -/
import Derived.Test.YtkbbmlkgaooaiaaGreatDoorPaA
import Derived.Test.YtkbbmlkgaooaiaaGreatDoorLk
import Derived.Test.YtkbbmlkgaooaiaaGreatDoorOdd
import Derived.Test.YtkbbmlkgaooaiaaGreatDoorSome
import Derived.Test.YtkbbmlkgaooaiaaGreatDoorCmpI
import Derived.Test.YtkbbmlkgaooaiaaGreatDoorFlt
import Derived.Test.YtkbbmlkgaooaiaaGreatDoorDistances
namespace Go.Proofs.YtkbbmlkgaooaiaaGreatDoor
open Go.RowKit Go.Hw Go.Shelf

theorem own_type_ne {w : World} {base : Nat} {e : TypeId} {size : Nat} {v : Value} {n : Nat} {xs : List Value} (h : w.ownsRow base e size v n xs) {B : Nat} {cs : Array Value} {T : TypeId} {fr : Nat × Nat}
    (hB : w.heap[B]? = some (.cells cs T fr)) (ht : T ≠ e) : v.ownBlock ≠ some B := by
  intro hv
  rcases h.2 with ⟨h1, _⟩ | ⟨g, cap, cur, h1, _, h2, _⟩
  · rw [h1] at hv; simp [Value.ownBlock] at hv
  · rw [h1] at hv
    simp [Value.ownBlock] at hv
    subst hv
    rw [h2] at hB
    injection hB with hB
    injection hB with _ h3 _
    exact ht h3.symm
theorem lt_blk {w : World} {B : Nat} {o : Obj} (h : w.heap[B]? = some o) : B < w.heap.size := (Array.getElem?_eq_some_iff.1 h).1
theorem blk_alloc {w : World} {B : Nat} {o : Obj} (h : w.heap[B]? = some o) (o' : Obj) : (w.alloc o').heap[B]? = some o := (Below.heap_alloc w o' B (lt_blk h)).trans h
theorem blk_grown {w w' : World} {B : Nat} {o : Obj} {row : Option Nat} (h : w.heap[B]? = some o) (hg : w.grownBy w' row) (hne : some B ≠ row) : w'.heap[B]? = some o := (hg.block B (lt_blk h) hne).trans h
theorem pick_in {vs : List Int} {P : Int → Prop} (h : ∀ v ∈ vs, P v) (h0 : P 0) (k : Nat) : P (vs.getD k 0) := by
  by_cases hk : k < vs.length
  · rw [List.getD_eq_getElem?_getD, List.getElem?_eq_getElem hk]; exact h _ (List.getElem_mem hk)
  · rw [List.getD_eq_getElem?_getD, List.getElem?_eq_none (by omega)]; exact h0
theorem str_ne {s : ByteArray} (h : s.size ≠ 0) : ¬ s.toList = [] ∧ s.toList.isEmpty = false := by
  have h1 : ¬ s.toList = [] := fun e => h (size_of_nil e)
  exact ⟨h1, by cases e : s.toList <;> simp_all⟩
def tnCells (x : Tn) : List Value := [.string x.who, .int .i64 x.from_, .int .i64 x.to_]
def tnsCells (xs : List Tn) : List Value := xs.flatMap tnCells
theorem tns_snoc (xs : List Tn) (x : Tn) : tnsCells (xs ++ [x]) = tnsCells xs ++ tnCells x := by simp [tnsCells]
theorem tns_length (xs : List Tn) : (tnsCells xs).length = xs.length * 3 := by
  induction xs with
  | nil => rfl
  | cons x xs ih => simp only [tnsCells, List.flatMap_cons, List.length_append, List.length_cons] at ih ⊢; rw [ih]; simp [tnCells]; omega
theorem Tryz.infoTurn : (Tryz.prog.info? 151).map (fun i => (i.zero, i.size, i.bytes)) = some (some (.agg #[.string ⟨#[]⟩, .int .i64 0, .int .i64 0]), 3, 32) := by kernel_rfl
/-- Turns that the call owns. -/
def TnsOwn (w : World) (base : Nat) (v : Value) (l : List Tn) : Prop := w.ownsRow base 151 3 v l.length (tnsCells l)
/-- The last one in memory. -/
theorem TnsOwn.last {w : World} {base : Nat} {v : Value} {l0 : List Tn} {y : Tn} (h : TnsOwn w base v (l0 ++ [y])) :
    ∃ g cap, v = .slice (some ⟨g, 0, none⟩) (l0.length + 1) cap ∧ base ≤ g ∧ g < w.heap.size ∧ l0.length + 1 ≤ cap ∧ w.cell? ⟨g, l0.length * 3, none⟩ = some (.string y.who) ∧ w.cell? ⟨g, l0.length * 3 + 1, none⟩ = some (.int .i64 y.from_) ∧
      w.cell? ⟨g, l0.length * 3 + 2, none⟩ = some (.int .i64 y.to_) ∧ w.frozen? ⟨g, l0.length * 3 + 2, none⟩ = false := by
  have h' := h
  obtain ⟨_, h1⟩ := h
  rcases h1 with ⟨_, h1⟩ | ⟨g, cap, cur, h3, h4, h5, h6, h7, h8, h9⟩
  · simp at h1
  · have hc : ∀ j u, (tnsCells (l0 ++ [y]))[j]? = some u → w.cell? ⟨g, j, none⟩ = some u := by
      intro j u hu
      have := World.ownsRow.cells (g := g) h' (by rw [h3]; rfl) j u hu
      have hadd : (⟨g, 0, none⟩ : Addr).add j = ⟨g, j, none⟩ := by unfold Addr.add; split <;> simp_all
      rwa [hadd] at this
    have hl : ∀ i u, (tnCells y)[i]? = some u → (tnsCells (l0 ++ [y]))[l0.length * 3 + i]? = some u := by
      intro i u hu
      rw [tns_snoc, List.getElem?_append_right (by rw [tns_length]; omega), tns_length]
      rw [show l0.length * 3 + i - l0.length * 3 = i from by omega]
      exact hu
    exact ⟨g, cap, by simpa using h3, h4, (Array.getElem?_eq_some_iff.1 h5).1, by simpa using h6, hc _ _ (hl 0 _ rfl), hc _ _ (hl 1 _ rfl), hc _ _ (hl 2 _ rfl), by simp [World.frozen?, h5]⟩
/-- The last one is closed. -/
theorem TnsOwn.close {w : World} {base g cap : Nat} {l0 : List Tn} {y : Tn} (h : TnsOwn w base (.slice (some ⟨g, 0, none⟩) (l0.length + 1) cap) (l0 ++ [y])) (t : Int) :
    TnsOwn (w.setCell ⟨g, l0.length * 3 + 2, none⟩ (.int .i64 t)) base (.slice (some ⟨g, 0, none⟩) (l0.length + 1) cap) (l0 ++ [{ y with to_ := t }]) ∧ w.grownBy (w.setCell ⟨g, l0.length * 3 + 2, none⟩ (.int .i64 t)) (some g) := by
  have h0 : w.ownsRow base 151 3 (.slice (some ⟨g, 0, none⟩) (l0.length + 1) cap) (l0.length + 1) (tnsCells (l0 ++ [y])) := by
    unfold TnsOwn at h
    simpa using h
  unfold TnsOwn
  have h1 := World.ownsRow.stored h0 (l0.length * 3 + 2) (.int .i64 t)
  refine ⟨?_, ⟨rfl, rfl, rfl, by simp [World.setCell], fun i _ hi => Below.heap_setCell w _ _ i (fun e => hi (by rw [e]))⟩⟩
  have h2 := h1.1
  rw [tns_snoc] at h2 ⊢
  rw [List.set_append, if_neg (by rw [tns_length]; omega), tns_length, show l0.length * 3 + 2 - l0.length * 3 = 2 from by omega] at h2
  simpa [tnCells] using h2
theorem TnsOwn.keep {w w' : World} {base : Nat} {v : Value} {l : List Tn} {row : Option Nat} (h : TnsOwn w base v l) (hg : w.grownBy w' row) (hr : ∀ k, row = some k → k < base) : TnsOwn w' base v l := by
  refine World.ownsRow.kept h hg ?_
  cases hv : v.ownBlock with
  | none => exact .inl rfl
  | some j => exact .inr (fun e => by have := (World.ownsRow.lt h j hv).1; have := hr j e.symm; omega)
theorem bytes_ext {a b : ByteArray} (h : a.toList = b.toList) : a = b := by
  rw [ByteArray.toList_eq, ByteArray.toList_eq] at h
  cases a with | mk a => cases b with | mk b =>
  simp only [ByteArray.mk.injEq]
  exact Array.toList_inj.1 h
theorem own_cast {w : World} {base : Nat} {e : TypeId} {size : Nat} {v : Value} {n m : Nat} {xs ys : List Value} (h : w.ownsRow base e size v n xs) (hn : n = m) (hx : xs = ys) : w.ownsRow base e size v m ys := by
  subst hn hx
  exact h
theorem cells_new_at (W : World) (n : Nat) (hn : n = W.heap.size) (cs : List Value) (T : TypeId) : ∀ j u, cs[j]? = some u → (W.alloc (.cells cs.toArray T)).cell? ((⟨n, 0, none⟩ : Addr).add j) = some u := by
  subst hn
  exact cells_new W cs T
theorem drew_grown' {w w' : World} {r : Option Nat} (h : w.drew.grownBy w' r) : w.grownBy w' r := ⟨h.os, h.tape, h.output, h.size, h.block⟩
theorem grown_below {w w1 w2 : World} {row : Option Nat} {B : Nat} (h : w.grownBy w1 row) (hb : Below B w1 w2) (hB : w.heap.size ≤ B) : w.grownBy w2 row :=
  ⟨hb.os.trans h.os, hb.tape.trans h.tape, hb.output.trans h.output, Nat.le_trans h.size hb.size, fun i hi hn => (hb.block i (by omega)).trans (h.block i hi hn)⟩
theorem below_of_grown {w w0 w1 : World} {K : Nat} (hb : Below w.heap.size w w0) (h : w0.grownBy w1 (some K)) (hK : w.heap.size ≤ K) : Below w.heap.size w w1 :=
  hb.grown h hb.size (fun j hj => by injection hj with hj; omega)
theorem orOf_two {a b : Int} (h : ¬ 0 ≤ orOf [a, b]) : a < 0 ∨ (a = 0 ∧ b < 0) := by
  unfold orOf at h
  split at h
  · rename_i h0
    unfold orOf at h
    split at h
    · rename_i h1; unfold orOf at h; omega
    · omega
  · omega
theorem cmpI_le {a b : Int} (h : cmpI a b < 0 ∨ cmpI a b = 0) : a ≤ b := by
  unfold cmpI at h
  split at h
  · omega
  · split at h
    · omega
    · omega
theorem below_dn {B : Nat} {a w : World} (h : Below B a w) (n : Nat) : Below B a (w.drewN n) := ⟨h.os, h.tape, h.output, h.size, h.block⟩
theorem flat3 {α : Type} (f : α → List Value) (hf : ∀ x, (f x).length = 3) (l : List α) : ∀ i (h : i < l.length) j u, (f l[i])[j]? = some u → (l.flatMap f)[i * 3 + j]? = some u := by
  induction l with
  | nil => intro i h; simp at h
  | cons a l ih =>
    intro i h j u hu
    rw [List.flatMap_cons]
    have hj : j < 3 := by
      have := (List.getElem?_eq_some_iff.1 hu).1
      rw [hf] at this
      exact this
    rcases i with _ | i
    · rw [List.getElem?_append_left (by rw [hf]; omega), show 0 * 3 + j = j from by omega]
      exact hu
    · rw [List.getElem?_append_right (by rw [hf]; omega), hf, show (i + 1) * 3 + j - 3 = i * 3 + j from by omega]
      exact ih i (by simp at h; omega) j u hu
/-- Turns in memory, below block B. -/
def TnsAt (w : World) (B : Nat) (A : Option Addr) (l : List Tn) : Prop :=
  ∀ i, i < l.length → ∃ g, A = some ⟨g, 0, none⟩ ∧ g < B ∧ w.cell? ⟨g, i * 3, none⟩ = some (.string (l.getD i noTn).who) ∧ w.cell? ⟨g, i * 3 + 1, none⟩ = some (.int .i64 (l.getD i noTn).from_) ∧ w.cell? ⟨g, i * 3 + 2, none⟩ = some (.int .i64 (l.getD i noTn).to_)
theorem TnsAt.below {w w' : World} {B : Nat} {A : Option Addr} {l : List Tn} (h : TnsAt w B A l) (hb : Below B w w') : TnsAt w' B A l := fun i hi =>
  let ⟨g, h1, h2, h3, h4, h5⟩ := h i hi
  ⟨g, h1, h2, (hb.cell (p := ⟨g, _, none⟩) h2).trans h3, (hb.cell (p := ⟨g, _, none⟩) h2).trans h4, (hb.cell (p := ⟨g, _, none⟩) h2).trans h5⟩
theorem tns_at {w : World} {base : Nat} {v : Value} {l : List Tn} (h : TnsOwn w base v l) : ∃ A cap, v = .slice A l.length cap ∧ TnsAt w w.heap.size A l := by
  obtain ⟨A, cap, rfl, hc⟩ := own_reads h
  refine ⟨A, cap, rfl, fun i hi => ?_⟩
  have he : l.getD i noTn = l[i] := by rw [List.getD_eq_getElem?_getD, List.getElem?_eq_getElem hi]; rfl
  have hcell := fun j u hu => hc _ _ (flat3 tnCells (fun _ => rfl) l i hi j u hu)
  obtain ⟨g, h1, h2, h3⟩ := hcell 0 _ rfl
  obtain ⟨g', h1', _, h4⟩ := hcell 1 _ rfl
  obtain ⟨g'', h1'', _, h5⟩ := hcell 2 _ rfl
  rw [h1] at h1' h1''
  injection h1' with h1'
  injection h1' with h1'
  injection h1'' with h1''
  injection h1'' with h1''
  subst h1' h1''
  exact ⟨g, h1, h2, by rw [he]; exact h3, by rw [he]; exact h4, by rw [he]; exact h5⟩
theorem alloc_size (w : World) (o : Obj) : (w.alloc o).heap.size = w.heap.size + 1 := by simp
theorem below_dr {B : Nat} {a w : World} (h : Below B a w) : Below B a w.drew := ⟨h.os, h.tape, h.output, h.size, h.block⟩
theorem pick_of {vs : List Int} {P : Int → Prop} (h : ∀ v ∈ vs, P v) {k : Nat} (hk : k < vs.length) : P (vs.getD k 0) := by
  rw [List.getD_eq_getElem?_getD, List.getElem?_eq_getElem hk]; exact h _ (List.getElem_mem hk)
end Go.Proofs.YtkbbmlkgaooaiaaGreatDoor
