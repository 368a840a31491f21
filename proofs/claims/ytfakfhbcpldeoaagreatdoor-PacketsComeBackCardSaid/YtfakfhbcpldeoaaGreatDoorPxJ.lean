/- Packets as bytes: a struct's cells that are stored in turn; readFour. -/
import Derived.Test.YtfakfhbcpldeoaaGreatDoorPxI
import Derived.Test.YtfakfhbcpldeoaaGreatDoorRgT
namespace Go.Proofs.YtfakfhbcpldeoaaGreatDoor
open Go.RowKit Go.Hw

/-- What is a cell of the target stays one. -/
def VM (Q : Nat) (tgt : Array Value) (J : List Nat) : World → Value → Prop := fun w _ => ∀ j ∈ J, ∀ v, tgt[j]? = some v → w.cell? ⟨Q, j, none⟩ = some v
def GrM (Q : Nat) (tgt : Array Value) (w w' : World) : Prop := ∀ j v, tgt[j]? = some v → w.cell? ⟨Q, j, none⟩ = some v → w'.cell? ⟨Q, j, none⟩ = some v
def GM (w0 : World) (Q : Nat) (T : TypeId) (tgt : Array Value) (J : List Nat) (w : World) : Prop :=
  ∃ cs : Array Value, cs.size = tgt.size ∧ (∀ i, i ∉ J → cs[i]? = tgt[i]?) ∧ w.heap[Q]? = some (.cells cs T (0, 0)) ∧ Rchg (fun k => k = Q) w0 w
theorem GrM.refl (Q : Nat) (tgt : Array Value) (w : World) : GrM Q tgt w w := fun _ _ _ h => h
theorem GrM.trans {Q : Nat} {tgt : Array Value} {w w1 w2 : World} (h : GrM Q tgt w w1) (k : GrM Q tgt w1 w2) : GrM Q tgt w w2 := fun j v hv hc => k j v hv (h j v hv hc)
theorem GrM.blk {Q : Nat} {tgt : Array Value} {w w' : World} (h : w'.heap[Q]? = w.heap[Q]?) : GrM Q tgt w w' := fun j _ _ hc => (World.cell?_of_block (w := w) (a := ⟨Q, j, none⟩) h).trans hc
theorem VM.stab {Q : Nat} {tgt : Array Value} {J : List Nat} {w w' : World} {v : Value} (h : VM Q tgt J w v) (hg : GrM Q tgt w w') : VM Q tgt J w' v := fun j hj u hu => hg j u hu (h j hj u hu)
theorem VM.nil {Q : Nat} {tgt : Array Value} {w : World} {v : Value} : VM Q tgt [] w v := fun _ h => by cases h
theorem VM.cons {Q : Nat} {tgt : Array Value} {j : Nat} {J : List Nat} {w : World} {x v : Value} (h : w.cell? ⟨Q, j, none⟩ = some x) (k : tgt[j]? = some x) (ht : VM Q tgt J w v) : VM Q tgt (j :: J) w v := by
  intro i hi u hu
  rcases List.mem_cons.1 hi with rfl | hi
  · rw [← hu, k, h]
  · exact ht i hi u hu
section
variable {w0 w : World} {Q : Nat} {T : TypeId} {tgt : Array Value} {J : List Nat}
theorem GM.st (h : GM w0 Q T tgt J w) {j : Nat} {v : Value} (hv : tgt[j]? = some v) (hj : j ∈ J) :
    GM w0 Q T tgt J (w.setCell ⟨Q, j, none⟩ v) ∧ GrM Q tgt w (w.setCell ⟨Q, j, none⟩ v) ∧ (w.setCell ⟨Q, j, none⟩ v).cell? ⟨Q, j, none⟩ = some v := by
  obtain ⟨cs, h1, h2, h3, h4⟩ := h
  have hb := heap_set h3 j v
  have hj19 : j < cs.size := by rw [h1]; exact (Array.getElem?_eq_some_iff.1 hv).1
  have hc : (w.setCell ⟨Q, j, none⟩ v).cell? ⟨Q, j, none⟩ = some v := (cell_of hb j).trans (by rw [Array.getElem?_setIfInBounds_self_of_lt hj19])
  refine ⟨⟨cs.setIfInBounds j v, by simp [h1], fun i hi => ?_, hb, Rchg.set h4 (fun _ => rfl) j v⟩, fun i u hu hx => ?_, hc⟩
  · rw [Array.getElem?_setIfInBounds_ne (fun e => hi (by rw [← e]; exact hj))]
    exact h2 i hi
  · by_cases e : i = j
    · subst e
      rw [hv] at hu
      rw [← hu]
      exact hc
    · rw [World.cell?_setCell_other _ _ _ _ (by intro c; injection c with _ c2; exact e c2.symm)]
      exact hx
theorem GM.bl (h : GM w0 Q T tgt J w) {w' : World} (hb : Below w.heap.size w w') : GM w0 Q T tgt J w' ∧ GrM Q tgt w w' := by
  obtain ⟨cs, h1, h2, h3, h4⟩ := h
  have he := hb.block Q (lt_of_block h3)
  exact ⟨⟨cs, h1, h2, he.trans h3, h4.trans (Rchg.of_below (F := fun k => k = Q) hb) (fun _ _ e => e)⟩, GrM.blk he⟩
theorem GM.start {cs : Array Value} (h3 : w.heap[Q]? = some (.cells cs T (0, 0))) (h1 : cs.size = tgt.size) (h2 : ∀ i, i ∉ J → cs[i]? = tgt[i]?) : GM w Q T tgt J w.drew :=
  ⟨cs, h1, h2, h3, ⟨rfl, rfl, rfl, Nat.le_refl _, fun _ _ _ => rfl⟩⟩
theorem GM.old (h : GM w0 Q T tgt J w) {k : Nat} {o : Obj} (hk : w0.heap[k]? = some o) (hn : k ≠ Q) : w.heap[k]? = some o := by
  obtain ⟨cs, h1, h2, h3, h4⟩ := h
  exact (h4.block k (lt_of_block hk) hn).trans hk
theorem GM.fin (h : GM w0 Q T tgt J w) (ha : ∀ j ∈ J, ∀ v, tgt[j]? = some v → w.cell? ⟨Q, j, none⟩ = some v) (hs : ∀ j ∈ J, j < tgt.size) : w.heap[Q]? = some (.cells tgt T (0, 0)) ∧ Rchg (fun k => k = Q) w0 w := by
  obtain ⟨cs, h1, h2, h3, h4⟩ := h
  have e : cs = tgt := by
    apply Array.ext_getElem?
    intro i
    by_cases hi : i ∈ J
    · have hl := hs i hi
      have := ha i hi (tgt[i]'hl) (by simp)
      rw [cell_of h3 i] at this
      rw [this]
      simp
    · exact h2 i hi
  rw [e] at h3
  exact ⟨h3, h4⟩
theorem GM.cell (h : GM w0 Q T tgt J w) (j : Nat) (hj : j < tgt.size) : (∃ x, w.cell? ⟨Q, j, none⟩ = some x) ∧ w.frozen? ⟨Q, j, none⟩ = false := by
  obtain ⟨cs, h1, h2, h3, h4⟩ := h
  exact ⟨⟨cs[j]'(by omega), (cell_of h3 j).trans (by simp)⟩, by simp [World.frozen?, h3]⟩
end
/-- Bytes that stay. -/
theorem bAt.rc {w w' : World} {g off Q : Nat} {bs : List UInt8} (h : bAt w (some ⟨g, off, none⟩) bs) (hc : Rchg (fun k => k = Q) w w') (hn : g ≠ Q) : bAt w' (some ⟨g, off, none⟩) bs := fun i c hi => by
  obtain ⟨g', off', e, hl, hx⟩ := h i c hi
  injection e with e
  injection e with e1 e2
  subst e1
  subst e2
  exact ⟨g, off, rfl, Nat.lt_of_lt_of_le hl hc.size, (World.cell?_of_block (w := w) (a := ⟨g, off + i, none⟩) (hc.block g hl hn)).trans hx⟩
end Go.Proofs.YtfakfhbcpldeoaaGreatDoor
