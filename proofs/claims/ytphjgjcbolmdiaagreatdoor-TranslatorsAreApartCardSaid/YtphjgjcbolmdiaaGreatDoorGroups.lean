/- A map whose elements are slices of the call's own, one row for each key: plain words and laws, over any program. -/
import Derived.Test.YtphjgjcbolmdiaaGreatDoorMap
import Derived.Deep.AppendLies
namespace Go.Hw
open Go.MapKept Go.RowKit

def nilSlice : Value := .slice none 0 0
/-- The slice that a lookup gives. -/
def rowOf (m : List (ByteArray × Value)) (u : ByteArray) : Value := (get m u).getD nilSlice

structure Groups {β : Type} (w : World) (base b : Nat) (E : TypeId) (size : Nat) (enc : β → List Value) (S : ByteArray → List β) (m : List (ByteArray × Value)) : Prop where
  map_ : MapIs w b (fun v : Value => v) m
  rows : ∀ u, w.ownsRow base E size (rowOf m u) (S u).length ((S u).flatMap enc)
  apart : ∀ u u' g, u ≠ u' → (rowOf m u).ownBlock = some g → (rowOf m u').ownBlock ≠ some g

section
variable {β : Type} {w w' : World} {base b : Nat} {E : TypeId} {size : Nat} {enc : β → List Value} {S : ByteArray → List β} {m : List (ByteArray × Value)}
theorem Groups.made (w : World) (base : Nat) (E : TypeId) (size : Nat) (enc : β → List Value) : Groups (w.alloc (.map #[] 0)) base w.heap.size E size enc (fun _ => []) [] where
  map_ := MapIs.made w _
  rows := fun u => World.ownsRow_nil _ _ _ _
  apart := fun u u' g _ h => by simp [rowOf, get_nil, nilSlice, Value.ownBlock] at h
theorem Groups.not_map (h : Groups w base b E size enc S m) (u : ByteArray) : (rowOf m u).ownBlock ≠ some b := by
  intro hb
  rcases (h.rows u).2 with ⟨h1, _⟩ | ⟨g, cap, cur, h1, _, h2, _⟩
  · rw [h1] at hb; simp [Value.ownBlock] at hb
  · rw [h1] at hb
    simp [Value.ownBlock] at hb
    subst hb
    obtain ⟨es, clock, h3, _⟩ := h.map_
    rw [h2] at h3
    cases h3
/-- What writes neither the map nor a row keeps all. -/
theorem Groups.keep {row : Option Nat} (h : Groups w base b E size enc S m) (hg : w.grownBy w' row) (hb : some b ≠ row) (hr : ∀ u, (rowOf m u).ownBlock = none ∨ (rowOf m u).ownBlock ≠ row) : Groups w' base b E size enc S m where
  map_ := h.map_.grown hg hb
  rows := fun u => (h.rows u).kept hg (hr u)
  apart := h.apart
theorem Groups.alloc (h : Groups w base b E size enc S m) (o : Obj) : Groups (w.alloc o) base b E size enc S m :=
  h.keep (World.grownBy_alloc w o none) (by simp) (fun u => by cases hv : (rowOf m u).ownBlock <;> simp)
theorem Groups.drew (h : Groups w base b E size enc S m) : Groups w.drew base b E size enc S m := h.keep (row := none) ⟨rfl, rfl, rfl, Nat.le_refl _, fun _ _ _ => rfl⟩ (by simp) (fun u => by cases hv : (rowOf m u).ownBlock <;> simp)
theorem Groups.look {P : Program} {t kt et : TypeId} (h : Groups w base b E size enc S m) (ht : P.underlying t = some (.map kt et)) (hk : P.underlying kt = some .string) (hz : ∀ w : World, (zeroValue et).run P w = .ok (.slice none 0 0) w) (u : ByteArray) :
    ∀ W : World, W.heap[b]? = w.heap[b]? → (Instr.lookup t (.map (some b)) (.string u) false).run P W = .ok (rowOf m u) W := by
  intro W hW
  rw [run_get (h.map_.keep hW) ht hk (hz W) u]
  unfold rowOf nilSlice
  cases get m u <;> rfl
theorem Groups.put {P : Program} {t kt et : TypeId} (h : Groups w base b E size enc S m) (ht : P.underlying t = some (.map kt et)) (hk : P.underlying kt = some .string) (u : ByteArray) (s : β)
    {w1 : World} {g n cap H : Nat} (hown : w1.ownsRow base E size (.slice (some ⟨g, 0, none⟩) n cap) n ((S u ++ [s]).flatMap enc)) (hn : n = (S u ++ [s]).length) (hgr : w.grownBy w1 (rowOf m u).ownBlock)
    (hat : (rowOf m u).ownBlock = some g ∨ g = H) (hH : H = w.heap.size) :
    ∃ w2, (Instr.mapUpdate t (.map (some b)) (.string u) (.slice (some ⟨g, 0, none⟩) n cap)).run P w1 = .ok () w2 ∧
      Groups w2 base b E size enc (fun x => if x = u then S u ++ [s] else S x) (Hw.put m u (.slice (some ⟨g, 0, none⟩) n cap)) ∧ w1.grownBy w2 (some b) := by
  subst hn
  have hnm := h.not_map u
  have hm1 : MapIs w1 b (fun v : Value => v) m := h.map_.grown hgr (fun e => hnm e.symm)
  obtain ⟨w2, hrun, hm2, hg2, hz2⟩ := run_put hm1 ht hk u (.slice (some ⟨g, 0, none⟩) (S u ++ [s]).length cap)
  have hgb : g ≠ b := by
    rintro rfl
    rcases hat with h1 | h1
    · exact hnm h1
    · have := h.map_.lt; omega
  have hrow : ∀ x, rowOf (Hw.put m u (.slice (some ⟨g, 0, none⟩) (S u ++ [s]).length cap)) x = if x = u then .slice (some ⟨g, 0, none⟩) (S u ++ [s]).length cap else rowOf m x := by
    intro x
    unfold rowOf
    rw [get_put]
    by_cases hx : x = u <;> simp [hx]
  have hother : ∀ x, x ≠ u → w2.ownsRow base E size (rowOf m x) (S x).length ((S x).flatMap enc) ∧ (rowOf m x).ownBlock ≠ some g := by
    intro x hx
    have h1 : (rowOf m x).ownBlock = none ∨ (rowOf m x).ownBlock ≠ (rowOf m u).ownBlock := by
      cases hv : (rowOf m x).ownBlock with
      | none => exact .inl rfl
      | some j => exact .inr (fun e => h.apart x u j hx hv e.symm)
    have h2 := (h.rows x).kept hgr h1
    refine ⟨h2.kept hg2 (.inr ?_), ?_⟩
    · intro e
      exact h.not_map x e
    · intro e
      rcases hat with h3 | h3
      · exact h.apart u x g (Ne.symm hx) h3 e
      · have := (h.rows x).lt g e; omega
  refine ⟨w2, hrun, ⟨hm2, fun x => ?_, fun x x' j hne hj => ?_⟩, hg2⟩
  · rw [hrow]
    by_cases hx : x = u
    · subst hx
      simp only [if_true]
      exact hown.kept hg2 (.inr (by simp [Value.ownBlock, hgb]))
    · simp only [hx, if_false]
      exact (hother x hx).1
  · rw [hrow] at hj ⊢
    by_cases hx : x = u
    · subst hx
      rw [if_pos rfl] at hj
      simp [Value.ownBlock] at hj
      subst hj
      rw [if_neg (Ne.symm hne)]
      exact (hother x' (Ne.symm hne)).2
    · rw [if_neg hx] at hj
      by_cases hx' : x' = u
      · subst hx'
        rw [if_pos rfl]
        intro e
        simp [Value.ownBlock] at e
        subst e
        exact (hother x hx).2 hj
      · rw [if_neg hx']
        exact h.apart x x' j hne hj
end
end Go.Hw
