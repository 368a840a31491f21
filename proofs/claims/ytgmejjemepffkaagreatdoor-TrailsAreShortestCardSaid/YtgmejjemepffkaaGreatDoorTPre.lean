/- TrailsAreShortest: what is known of the links and names that are drawn. -/
import Derived.Test.YtgmejjemepffkaaGreatDoorTLaw
import Derived.Test.YtgmejjemepffkaaGreatDoorReady
import Derived.OneCell
namespace Go.Proofs.YtgmejjemepffkaaGreatDoor
open Go.RowKit Go.Hw

theorem getD_mem_or {α : Type} (l : List α) (i : Nat) (d : α) : l.getD i d ∈ l ∨ l.getD i d = d := by
  by_cases h : i < l.length
  · left; rw [List.getD_eq_getElem?_getD, List.getElem?_eq_getElem h]; exact List.getElem_mem h
  · right; rw [List.getD_eq_getElem?_getD, List.getElem?_eq_none (by omega)]; rfl
theorem town_small (i : Nat) : (town i).size ≤ 3 := by
  unfold town
  rcases getD_mem_or towns i ByteArray.empty with h | h
  · revert h
    generalize towns.getD i ByteArray.empty = x
    intro h
    have : ∀ y ∈ towns, y.size ≤ 3 := by decide
    exact this x h
  · rw [h]; decide
def SmallLk (x : Lk) : Prop := x.a.size ≤ 3 ∧ x.b.size ≤ 3
theorem linkStep_small (l : List Int) (s : List Lk × Int) (p : Nat × Nat) (h : ∀ x ∈ s.1, SmallLk x) : ∀ x ∈ (linkStep l s p).1, SmallLk x := by
  intro x hx
  unfold linkStep at hx
  split at hx
  · exact h x hx
  · rcases List.mem_append.1 hx with hx | hx
    · exact h x hx
    · rw [List.mem_singleton.1 hx]
      exact ⟨town_small _, town_small _⟩
theorem fold_small (l : List Int) (ps : List (Nat × Nat)) : ∀ s : List Lk × Int, (∀ x ∈ s.1, SmallLk x) → ∀ x ∈ (ps.foldl (linkStep l) s).1, SmallLk x := by
  induction ps with
  | nil => intro s h; exact h
  | cons p ps ih => intro s h; exact ih _ (linkStep_small l s p h)
theorem links_small (l : List Int) (at_ : Int) : ∀ x ∈ (linksOf l at_).1, SmallLk x := by
  have h0 : ∀ x ∈ (linksTo l at_ 10).1, SmallLk x := fold_small l _ _ (fun x hx => by cases hx)
  intro x hx
  unfold linksOf at hx
  split at hx
  · rcases List.mem_append.1 hx with hx | hx
    · exact h0 x hx
    · rw [List.mem_singleton.1 hx]
      constructor
      · show (([⟨#[]⟩, ⟨#[102, 114, 97]⟩, ⟨#[122, 122]⟩] : List ByteArray).getD (drawOf l ((linksTo l at_ 10).2 + 1) 3).toNat ByteArray.empty).size ≤ 3
        rcases getD_mem_or ([⟨#[]⟩, ⟨#[102, 114, 97]⟩, ⟨#[122, 122]⟩] : List ByteArray) (drawOf l ((linksTo l at_ 10).2 + 1) 3).toNat ByteArray.empty with h | h
        · have : ∀ y ∈ ([⟨#[]⟩, ⟨#[102, 114, 97]⟩, ⟨#[122, 122]⟩] : List ByteArray), y.size ≤ 3 := by decide
          exact this _ h
        · rw [h]; decide
      · show (([⟨#[102, 114, 97]⟩, ⟨#[122, 122, 122]⟩] : List ByteArray).getD (drawOf l ((linksTo l at_ 10).2 + 2) 2).toNat ByteArray.empty).size ≤ 3
        rcases getD_mem_or ([⟨#[102, 114, 97]⟩, ⟨#[122, 122, 122]⟩] : List ByteArray) (drawOf l ((linksTo l at_ 10).2 + 2) 2).toNat ByteArray.empty with h | h
        · have : ∀ y ∈ ([⟨#[102, 114, 97]⟩, ⟨#[122, 122, 122]⟩] : List ByteArray), y.size ≤ 3 := by decide
          exact this _ h
        · rw [h]; decide
  · exact h0 x hx
theorem small_getD {xs : List Lk} (h : ∀ x ∈ xs, SmallLk x) (i : Nat) : (xs.getD i noLk).a.size ≤ maxLen ∧ (xs.getD i noLk).b.size ≤ maxLen := by
  rcases getD_mem_or xs i noLk with h1 | h1
  · have := h _ h1
    exact ⟨Nat.le_trans this.1 (by decide), Nat.le_trans this.2 (by decide)⟩
  · rw [h1]; exact ⟨by decide, by decide⟩
theorem linksOf_length (l : List Int) (at_ : Int) : (linksOf l at_).1.length ≤ 11 ∧ at_ ≤ (linksOf l at_).2 ∧ (linksOf l at_).2 ≤ at_ + 25 := by
  have := linksTo_bound l at_ 10
  unfold linksOf
  split <;> simp <;> omega
theorem nat_links {xs : List Lk} (h : linksFault xs = 0) : ∃ ys : List Link, ys.map lkOf = xs := by
  obtain ⟨_, hc⟩ := fault_zero h
  refine ⟨xs.map fun x => ⟨x.a, x.b, x.m.toNat⟩, ?_⟩
  rw [List.map_map]
  refine List.ext_getElem (by simp) fun i h1 h2 => ?_
  have := code_zero (hc i h2)
  rw [List.getD_eq_getElem?_getD, List.getElem?_eq_getElem h2] at this
  simp only [Option.getD_some] at this
  simp only [List.getElem_map, Function.comp, lkOf]
  obtain ⟨_, _, _, h0, _⟩ := this
  rw [Int.toNat_of_nonneg h0]
/-- A slice of links that the call owns. -/
theorem lks_cell : ∀ (xs : List Lk) (i : Nat), i < xs.length → (lksCells xs)[i * 3]? = some (.string (xs.getD i noLk).a) ∧ (lksCells xs)[i * 3 + 1]? = some (.string (xs.getD i noLk).b) ∧ (lksCells xs)[i * 3 + 2]? = some (.int .i64 (xs.getD i noLk).m)
  | [], i, h => by simp at h
  | x :: xs, 0, _ => ⟨rfl, rfl, rfl⟩
  | x :: xs, i + 1, h => by
    have := lks_cell xs i (by simpa using h)
    have e : lksCells (x :: xs) = .string x.a :: .string x.b :: .int .i64 x.m :: lksCells xs := rfl
    rw [e, show (i + 1) * 3 = i * 3 + 1 + 1 + 1 by omega]
    simpa using this
theorem own_lks {w : World} {base : Nat} {T : TypeId} {v : Value} {xs : List Lk} (h : w.ownsRow base T 3 v xs.length (lksCells xs)) : ∃ A cap, v = .slice A xs.length cap ∧ LksAt w w.heap.size A xs := by
  have hlt := h.lt
  rcases h.2 with ⟨h1, h2⟩ | ⟨g, cap, cur, h1, _⟩
  · refine ⟨none, 0, by rw [h1, h2], fun i hi => by omega⟩
  · refine ⟨some ⟨g, 0, none⟩, cap, h1, fun i hi => ⟨g, 0, rfl, (hlt g (by rw [h1]; rfl)).2, ?_⟩⟩
    have hc := fun j u hu => h.cells (g := g) (by rw [h1]; rfl) j u hu
    obtain ⟨k1, k2, k3⟩ := lks_cell xs i hi
    have hadd : ∀ j, (⟨g, 0, none⟩ : Addr).add j = ⟨g, 0 + j, none⟩ := fun j => by unfold Addr.add; split <;> simp_all
    have e1 := hc _ _ k1
    have e2 := hc _ _ k2
    have e3 := hc _ _ k3
    rw [hadd] at e1 e2 e3
    exact ⟨e1, e2, e3⟩
theorem trail_bound {xs : List Link} {a v : ByteArray} {ts : List ByteArray} {n M : Nat} (hM : ∀ l ∈ xs, l.m ≤ M) (h : TrailTo xs a ts v n) : n + M ≤ ts.length * M := by
  induction h with
  | start => simp
  | step ht hm ih =>
    obtain ⟨l, hl, hor⟩ := mem_steps.1 hm
    have : l.m ≤ M := hM l hl
    rw [List.length_append, List.length_singleton, Nat.add_mul]
    rcases hor with ⟨_, _, h⟩ | ⟨_, _, h⟩ <;> omega
theorem fault_le {ys : List Link} (h : linksFault (ys.map lkOf) = 0) : ∀ l ∈ ys, l.m ≤ 1000000 := by
  obtain ⟨_, hc⟩ := fault_zero h
  intro l hl
  obtain ⟨i, hi, rfl⟩ := List.getElem_of_mem hl
  have h1 := code_zero (hc i (by simpa using hi))
  have h2 : (ys.map lkOf).getD i noLk = lkOf ys[i] := by simp [List.getElem?_eq_getElem hi]
  rw [h2] at h1
  have := h1.2.2.2.2
  simp only [lkOf] at this
  omega
/-- One of two names. -/
theorem pick_two (x y : ByteArray) (P : ByteArray → Prop) (hx : P x) (hy : P y) (d : Int) (h0 : 0 ≤ d) (h2 : d < 2) : P (([x, y] : List ByteArray).getD d.toNat ByteArray.empty) := by
  have : d.toNat = 0 ∨ d.toNat = 1 := by omega
  rcases this with h | h <;> rw [h]
  · exact hx
  · exact hy
/-- A trail in memory. -/
theorem trail_cell {w : World} {base : Nat} {T : TypeId} {v : Value} {ts : List ByteArray} (h : w.ownsRow base T 1 v ts.length (strCells ts)) (hl : 1 ≤ ts.length) :
    ∃ g cap, v = .slice (some ⟨g, 0, none⟩) ts.length cap ∧ g < w.heap.size ∧ ∀ i, i < ts.length → w.cell? ⟨g, 0 + i, none⟩ = some (.string (ts.getD i ⟨#[]⟩)) := by
  have hlt := h.lt
  rcases h.2 with ⟨h1, h2⟩ | ⟨g, cap, cur, h1, _⟩
  · omega
  · refine ⟨g, cap, h1, (hlt g (by rw [h1]; rfl)).2, fun i hi => ?_⟩
    have hc := h.cells (g := g) (by rw [h1]; rfl) i (.string (ts.getD i ⟨#[]⟩)) (by simp [strCells, List.getElem?_eq_getElem hi])
    have hadd : (⟨g, 0, none⟩ : Addr).add i = ⟨g, 0 + i, none⟩ := by unfold Addr.add; split <;> simp_all
    rw [hadd] at hc
    exact hc
end Go.Proofs.YtgmejjemepffkaaGreatDoor
